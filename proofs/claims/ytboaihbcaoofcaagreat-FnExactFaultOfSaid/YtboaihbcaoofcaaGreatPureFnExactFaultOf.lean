/- The plain half of FnExactFaultOf. No condition. -/
import Derived.Test.YtboaihbcaoofcaaGreatHFnExactFaultOf
set_option linter.unusedVariables false
set_option linter.unusedSimpArgs false
open Go Go.Flat
namespace Go.QFnExactFaultOf
theorem l1In_ev (x lo hi : Int) : Ev (fun k => spec_l1In k x lo hi) (decide (lo ≤ x ∧ x ≤ hi)) := by
  by_cases c : lo ≤ x
  · exact Ev.eq (fun k => spec_l1In_eq k x lo hi) (Ev.pos c (Ev.ret.val (by simp [c])))
  · exact Ev.eq (fun k => spec_l1In_eq k x lo hi) (Ev.neg c (Ev.ret.val (by simp [c])))
theorem inRange_ev (x lo hi : Int) : Ev (fun k => impl_InRange k x lo hi) (decide (lo ≤ x ∧ x ≤ hi)) := by
  by_cases c : lo ≤ x
  · exact Ev.eq (fun k => impl_InRange_eq k x lo hi) (Ev.pos c (Ev.ret.val (by simp [c])))
  · exact Ev.eq (fun k => impl_InRange_eq k x lo hi) (Ev.neg c (Ev.ret.val (by simp [c])))
def gcdI (a b : Int) : Int := (Nat.gcd a.toNat b.toNat : Int)
theorem gcd_E2 {F : Int → Int → Nat → Nat → Option Int} (h0 : ∀ a, E2 (F a 0) a) (h1 : ∀ a b, b ≠ 0 → ∀ v, E2 (F b (Int.tmod a b)) v → E2 (F a b) v) : ∀ (n : Nat) (a b : Int), 0 ≤ a → 0 ≤ b → b.toNat ≤ n → E2 (F a b) (gcdI a b) := by
  intro n
  induction n with
  | zero =>
    intro a b ha hb hn
    have : b = 0 := by omega
    subst this
    refine (h0 a).val ?_
    unfold gcdI
    simp
    omega
  | succ n ih =>
    intro a b ha hb hn
    by_cases c : b = 0
    · subst c
      refine (h0 a).val ?_
      unfold gcdI
      simp
      omega
    · have hm : Int.tmod a b = ((a.toNat % b.toNat : Nat) : Int) := by
        obtain ⟨x, rfl⟩ := Int.eq_ofNat_of_zero_le ha
        obtain ⟨y, rfl⟩ := Int.eq_ofNat_of_zero_le hb
        rfl
      have hlt : a.toNat % b.toNat < b.toNat := Nat.mod_lt _ (by omega)
      refine (h1 a b c _ (ih b (Int.tmod a b) hb (by rw [hm]; omega) (by rw [hm]; omega))).val ?_
      unfold gcdI
      rw [hm, Int.toNat_natCast]
      congr 1
      rw [Nat.gcd_comm a.toNat b.toNat, Nat.gcd_rec b.toNat a.toNat, Nat.gcd_comm]
theorem specGcd_ev (a b : Int) (ha : 0 ≤ a) (hb : 0 ≤ b) : Ev (fun k => spec_l4Gcd k a b) (gcdI a b) :=
  Ev.eq (fun k => spec_l4Gcd_eq k a b) (Ev.loop (f := fun k m => spec_l4Gcd.l0 k m a b) (gcd_E2 (F := fun a b k m => spec_l4Gcd.l0 k m a b) (fun a => E2.eq (fun k m => spec_l4Gcd.l0_eq k m a 0) (E2.neg (by simp) E2.ret)) (fun a b hb v e => E2.eq (fun k m => spec_l4Gcd.l0_eq k m a b) (E2.pos hb (E2.neg hb e))) _ a b ha hb (Nat.le_refl _)))
theorem implGcd_ev (a b : Int) (ha : 0 ≤ a) (hb : 0 ≤ b) : Ev (fun k => impl_divisor k a b) (gcdI a b) :=
  Ev.eq (fun k => impl_divisor_eq k a b) (Ev.loop (f := fun k m => impl_divisor.l0 k m a b) (gcd_E2 (F := fun a b k m => impl_divisor.l0 k m a b) (fun a => E2.eq (fun k m => impl_divisor.l0_eq k m a 0) (E2.neg (by simp) E2.ret)) (fun a b hb v e => E2.eq (fun k m => impl_divisor.l0_eq k m a b) (E2.pos hb (E2.neg hb e))) _ a b ha hb (Nat.le_refl _)))
def absI (n : Int) : Int := (n.natAbs : Int)
theorem specAbs_ev (n : Int) (h1 : -4611686018427387904 ≤ n) (h2 : n ≤ 4611686018427387904) : Ev (fun k => spec_l4Abs k n) (absI n) := by
  unfold absI
  by_cases c : n < 0
  · exact Ev.eq (fun k => spec_l4Abs_eq k n) (Ev.pos c (Ev.ret.val (by rw [wrapI (by omega) (by omega)]; omega)))
  · exact Ev.eq (fun k => spec_l4Abs_eq k n) (Ev.neg c (Ev.ret.val (by omega)))
theorem implAbs (n : Int) (h1 : -4611686018427387904 ≤ n) (h2 : n ≤ 4611686018427387904) : (max n (IntKind.wrap .i64 (-n)) : Int) = absI n := by
  unfold absI
  rw [wrapI (by omega) (by omega)]
  omega
def isR (n d : Int) : Bool := decide ((1 ≤ d ∧ d ≤ 1000000) ∧ (-1000000000 ≤ n ∧ n ≤ 1000000000) ∧ gcdI (absI n) d = 1)
theorem specIsRatio_ev (r : DT23) : Ev (fun k => spec_IsRatio k r) (isR r.1 r.2.1) := by
  by_cases c1 : 1 ≤ r.2.1 ∧ r.2.1 ≤ 1000000
  · by_cases c2 : -1000000000 ≤ r.1 ∧ r.1 ≤ 1000000000
    · exact Ev.eq (fun k => spec_IsRatio_eq k r) (Ev.bind (l1In_ev _ _ _) (Ev.pos (by simp [c1]) (Ev.bind (l1In_ev _ _ _) (Ev.pos (by simp [c2]) (Ev.bind (specAbs_ev r.1 (by omega) (by omega)) (Ev.bind (specGcd_ev _ _ (by unfold absI; omega) (by omega)) (Ev.ret.val (by unfold isR; simp [c1, c2]))))))))
    · exact Ev.eq (fun k => spec_IsRatio_eq k r) (Ev.bind (l1In_ev _ _ _) (Ev.pos (by simp [c1]) (Ev.bind (l1In_ev _ _ _) (Ev.neg (by simpa using c2) (Ev.ret.val (by unfold isR; simp only [c2, false_and, and_false, decide_false]))))))
  · exact Ev.eq (fun k => spec_IsRatio_eq k r) (Ev.bind (l1In_ev _ _ _) (Ev.neg (by simpa using c1) (Ev.ret.val (by unfold isR; simp only [c1, false_and, decide_false]))))
theorem implIsRatio_ev (r : DT23) : Ev (fun k => impl_IsRatio k r) (isR r.1 r.2.1) := by
  by_cases c1 : 1 ≤ r.2.1 ∧ r.2.1 ≤ 1000000
  · by_cases c2 : -1000000000 ≤ r.1 ∧ r.1 ≤ 1000000000
    · refine Ev.eq (fun k => impl_IsRatio_eq k r) (Ev.bind (inRange_ev _ _ _) (Ev.pos (by simp [c1]) (Ev.bind (inRange_ev _ _ _) (Ev.pos (by simp [c2]) ?_))))
      simp only [implAbs r.1 (by omega) (by omega)]
      exact Ev.bind (implGcd_ev _ _ (by unfold absI; omega) (by omega)) (Ev.ret.val (by unfold isR; simp [c1, c2]))
    · exact Ev.eq (fun k => impl_IsRatio_eq k r) (Ev.bind (inRange_ev _ _ _) (Ev.pos (by simp [c1]) (Ev.bind (inRange_ev _ _ _) (Ev.neg (by simpa using c2) (Ev.ret.val (by unfold isR; simp only [c2, false_and, and_false, decide_false]))))))
  · exact Ev.eq (fun k => impl_IsRatio_eq k r) (Ev.bind (inRange_ev _ _ _) (Ev.neg (by simpa using c1) (Ev.ret.val (by unfold isR; simp only [c1, false_and, decide_false]))))
theorem gcdI_pos (a b : Int) (hb : 0 < b) : 0 < gcdI a b := by
  unfold gcdI
  have : 0 < Nat.gcd a.toNat b.toNat := Nat.gcd_pos_of_pos_right _ (by omega)
  omega
theorem wrap_tdiv (n g : Int) (h1 : -4611686018427387904 ≤ n) (h2 : n ≤ 4611686018427387904) : IntKind.wrap .i64 (Int.tdiv n g) = Int.tdiv n g := by
  have := Int.natAbs_tdiv_le_natAbs n g
  exact wrapI (by omega) (by omega)
abbrev Res : Type := DT23 × (Bool × Unit)
def noR : Res := ((0, (0, ())), (false, ()))
def mk (n d : Int) : Res :=
  if isR (Int.tdiv n (gcdI (absI n) d)) (Int.tdiv d (gcdI (absI n) d)) = true then ((Int.tdiv n (gcdI (absI n) d), (Int.tdiv d (gcdI (absI n) d), ())), (true, ())) else noR
theorem lowest_ev (n d : Int) (h1 : -4611686018427387904 ≤ n) (h2 : n ≤ 4611686018427387904) (h3 : 1 ≤ d) (h4 : d ≤ 4611686018427387904) : Ev (fun k => impl_lowest k n d) (mk n d) := by
  have hg := gcdI_pos (absI n) d (by omega)
  refine Ev.eq (fun k => impl_lowest_eq k n d) (Ev.neg (by omega) (Ev.neg (by omega) ?_))
  simp only [implAbs n h1 h2]
  refine Ev.bind (implGcd_ev _ _ (by unfold absI; omega) (by omega)) (Ev.neg (by omega) (Ev.neg (by omega) ?_))
  simp only [wrap_tdiv n _ h1 h2, wrap_tdiv d _ (by omega) h4]
  refine Ev.bind (implIsRatio_ev _) ?_
  unfold mk
  by_cases c : isR (Int.tdiv n (gcdI (absI n) d)) (Int.tdiv d (gcdI (absI n) d)) = true
  · exact Ev.neg (by simp [c]) (Ev.ret.val (by rw [if_pos c]))
  · exact Ev.pos (by simpa using c) (Ev.ret.val (by rw [if_neg c]; rfl))
theorem implMake_ev (n d : Int) (h1 : -1000000000000000 ≤ n) (h2 : n ≤ 1000000000000000) (h3 : 1 ≤ d) (h4 : d ≤ 1000000000000000) : Ev (fun k => impl_MakeRatio k n d) (mk n d) := by
  refine Ev.eq (fun k => impl_MakeRatio_eq k n d) (Ev.bind (inRange_ev _ _ _) (Ev.neg (by simp; omega) (Ev.bind (inRange_ev _ _ _) (Ev.neg (by simp; omega) (Ev.bind (lowest_ev n d (by omega) (by omega) h3 (by omega)) (Ev.ret.val ?_))))))
  obtain ⟨a, b, _⟩ := mk n d
  simp
theorem specMake_ev (n d : Int) (h1 : -1000000000000000 ≤ n) (h2 : n ≤ 1000000000000000) (h3 : 1 ≤ d) (h4 : d ≤ 1000000000000000) : Ev (fun k => spec_MakeRatio k n d) (mk n d) := by
  have hg := gcdI_pos (absI n) d (by omega)
  have hw : IntKind.wrap .i64 (-1000000000000000) = -1000000000000000 := wrapI (by omega) (by omega)
  refine Ev.eq (fun k => spec_MakeRatio_eq k n d) (Ev.bind (l1In_ev _ _ _) (Ev.neg (by rw [hw]; simp; omega) (Ev.bind (l1In_ev _ _ _) (Ev.neg (by rw [hw]; simp; omega) (Ev.neg (by omega) (Ev.neg (by omega) (Ev.bind (specAbs_ev n (by omega) (by omega)) (Ev.bind (specGcd_ev _ _ (by unfold absI; omega) (by omega)) (Ev.neg (by omega) (Ev.neg (by omega) ?_))))))))))
  simp only [wrap_tdiv n _ (show -4611686018427387904 ≤ n by omega) (by omega), wrap_tdiv d _ (show -4611686018427387904 ≤ d by omega) (by omega)]
  refine Ev.bind (specIsRatio_ev _) ?_
  unfold mk
  by_cases c : isR (Int.tdiv n (gcdI (absI n) d)) (Int.tdiv d (gcdI (absI n) d)) = true
  · exact Ev.neg (by simp [c]) (Ev.ret.val (by rw [if_pos c]))
  · exact Ev.pos (by simpa using c) (Ev.ret.val (by rw [if_neg c]; rfl))
theorem absI_mul (g n : Int) (hg : 0 < g) : absI (g * n) = g * absI n := by
  unfold absI
  rw [Int.natAbs_mul]
  have : ((g.natAbs : Nat) : Int) = g := by omega
  rw [Int.natCast_mul, this]
theorem gcdI_mul (g a b : Int) (hg : 0 < g) (ha : 0 ≤ a) (hb : 0 ≤ b) : gcdI (g * a) (g * b) = g * gcdI a b := by
  obtain ⟨k, rfl⟩ := Int.eq_ofNat_of_zero_le (Int.le_of_lt hg)
  obtain ⟨x, rfl⟩ := Int.eq_ofNat_of_zero_le ha
  obtain ⟨y, rfl⟩ := Int.eq_ofNat_of_zero_le hb
  unfold gcdI
  rw [← Int.natCast_mul, ← Int.natCast_mul]
  simp only [Int.toNat_natCast]
  rw [Nat.gcd_mul_left, Int.natCast_mul]
theorem mk_mul (g n d : Int) (hg : 0 < g) (hd : 1 ≤ d) : mk (g * n) (g * d) = mk n d := by
  have hp := gcdI_pos (absI n) d (by omega)
  unfold mk
  rw [absI_mul g n hg, gcdI_mul g _ _ hg (by unfold absI; omega) (by omega), Int.mul_tdiv_mul_of_pos _ _ hg, Int.mul_tdiv_mul_of_pos _ _ hg]
def addR (a b : DT23) : Res := if isR a.1 a.2.1 = true ∧ isR b.1 b.2.1 = true then mk (a.1 * b.2.1 + b.1 * a.2.1) (a.2.1 * b.2.1) else noR
theorem isR_spec {n d : Int} (h : isR n d = true) : (1 ≤ d ∧ d ≤ 1000000) ∧ (-1000000000 ≤ n ∧ n ≤ 1000000000) := by
  unfold isR at h
  have := of_decide_eq_true h
  exact ⟨this.1, this.2.1⟩
theorem mul_bd {x y A B : Int} (hx : -A ≤ x ∧ x ≤ A) (hy : 0 ≤ y ∧ y ≤ B) : -(A * B) ≤ x * y ∧ x * y ≤ A * B := by
  have hA : 0 ≤ A := by omega
  have h1 : A * y ≤ A * B := Int.mul_le_mul_of_nonneg_left hy.2 hA
  have h2 : x * y ≤ A * y := Int.mul_le_mul_of_nonneg_right hx.2 hy.1
  have h3 : -A * y ≤ x * y := Int.mul_le_mul_of_nonneg_right hx.1 hy.1
  rw [Int.neg_mul] at h3
  omega
theorem implAdd_ev (a b : DT23) : Ev (fun k => impl_AddRatio k a b) (addR a b) := by
  unfold addR
  by_cases ca : isR a.1 a.2.1 = true
  · by_cases cb : isR b.1 b.2.1 = true
    · obtain ⟨a1, a2⟩ := isR_spec ca
      obtain ⟨b1, b2⟩ := isR_spec cb
      have m1 := mul_bd (x := a.1) (y := b.2.1) (A := 1000000000) (B := 1000000) ⟨a2.1, a2.2⟩ ⟨by omega, b1.2⟩
      have m2 := mul_bd (x := b.1) (y := a.2.1) (A := 1000000000) (B := 1000000) ⟨b2.1, b2.2⟩ ⟨by omega, a1.2⟩
      have m3 := mul_bd (x := a.2.1) (y := b.2.1) (A := 1000000) (B := 1000000) ⟨by omega, a1.2⟩ ⟨by omega, b1.2⟩
      have m4 : 1 ≤ a.2.1 * b.2.1 := Int.mul_pos (by omega) (by omega)
      refine Ev.eq (fun k => impl_AddRatio_eq k a b) (Ev.bind (implIsRatio_ev a) (Ev.neg (by simp [ca]) (Ev.bind (implIsRatio_ev b) (Ev.neg (by simp [cb]) ?_))))
      rw [wrapI (n := a.1 * b.2.1) (by omega) (by omega), wrapI (n := b.1 * a.2.1) (by omega) (by omega), wrapI (n := a.1 * b.2.1 + b.1 * a.2.1) (by omega) (by omega), wrapI (n := a.2.1 * b.2.1) (by omega) (by omega)]
      refine Ev.bind (lowest_ev _ _ (by omega) (by omega) m4 (by omega)) (Ev.ret.val ?_)
      rw [if_pos ⟨ca, cb⟩]
      obtain ⟨r, o, _⟩ := mk (a.1 * b.2.1 + b.1 * a.2.1) (a.2.1 * b.2.1)
      simp
    · exact Ev.eq (fun k => impl_AddRatio_eq k a b) (Ev.bind (implIsRatio_ev a) (Ev.neg (by simp [ca]) (Ev.bind (implIsRatio_ev b) (Ev.pos (by simpa using cb) (Ev.ret.val (by rw [if_neg (fun h => cb h.2)]; rfl))))))
  · exact Ev.eq (fun k => impl_AddRatio_eq k a b) (Ev.bind (implIsRatio_ev a) (Ev.pos (by simpa using ca) (Ev.ret.val (by rw [if_neg (fun h => ca h.1)]; rfl))))
theorem gcdI_dvd (a b : Int) (ha : 0 ≤ a) (hb : 0 ≤ b) : gcdI a b ∣ a ∧ gcdI a b ∣ b := by
  obtain ⟨x, rfl⟩ := Int.eq_ofNat_of_zero_le ha
  obtain ⟨y, rfl⟩ := Int.eq_ofNat_of_zero_le hb
  unfold gcdI
  simp only [Int.toNat_natCast]
  exact ⟨Int.natCast_dvd_natCast.2 (Nat.gcd_dvd_left _ _), Int.natCast_dvd_natCast.2 (Nat.gcd_dvd_right _ _)⟩
theorem specAdd_ev (a b : DT23) : Ev (fun k => spec_AddRatio k a b) (addR a b) := by
  unfold addR
  by_cases ca : isR a.1 a.2.1 = true
  · by_cases cb : isR b.1 b.2.1 = true
    · obtain ⟨a1, a2⟩ := isR_spec ca
      obtain ⟨b1, b2⟩ := isR_spec cb
      have hg := gcdI_pos a.2.1 b.2.1 (by omega)
      obtain ⟨⟨p, hp⟩, ⟨q, hq⟩⟩ := gcdI_dvd a.2.1 b.2.1 (by omega) (by omega)
      rw [if_pos ⟨ca, cb⟩]
      have hgg := specGcd_ev a.2.1 b.2.1 (by omega) (by omega)
      generalize hge : gcdI a.2.1 b.2.1 = g at *
      have ep : Int.tdiv a.2.1 g = p := by rw [hp]; exact Int.mul_tdiv_cancel_left _ (by omega)
      have eq : Int.tdiv b.2.1 g = q := by rw [hq]; exact Int.mul_tdiv_cancel_left _ (by omega)
      have hp1 : 1 ≤ p := by
        rcases Int.lt_or_le 0 p with h | h
        · omega
        · have := Int.mul_nonpos_of_nonneg_of_nonpos (Int.le_of_lt hg) h
          omega
      have hq1 : 1 ≤ q := by
        rcases Int.lt_or_le 0 q with h | h
        · omega
        · have := Int.mul_nonpos_of_nonneg_of_nonpos (Int.le_of_lt hg) h
          omega
      have hp2 : p ≤ 1000000 := by
        have : 1 * p ≤ g * p := Int.mul_le_mul_of_nonneg_right (by omega) (by omega)
        omega
      have hq2 : q ≤ 1000000 := by
        have : 1 * q ≤ g * q := Int.mul_le_mul_of_nonneg_right (by omega) (by omega)
        omega
      have m1 := mul_bd (x := a.1) (y := q) (A := 1000000000) (B := 1000000) ⟨a2.1, a2.2⟩ ⟨by omega, hq2⟩
      have m2 := mul_bd (x := b.1) (y := p) (A := 1000000000) (B := 1000000) ⟨b2.1, b2.2⟩ ⟨by omega, hp2⟩
      have m3 := mul_bd (x := p) (y := b.2.1) (A := 1000000) (B := 1000000) ⟨by omega, hp2⟩ ⟨by omega, b1.2⟩
      have m4 : 1 ≤ p * b.2.1 := Int.mul_pos (by omega) (by omega)
      refine Ev.eq (fun k => spec_AddRatio_eq k a b) (Ev.bind (specIsRatio_ev a) (Ev.neg (by simp [ca]) (Ev.bind (specIsRatio_ev b) (Ev.neg (by simp [cb]) (Ev.bind hgg (Ev.neg (by omega) (Ev.neg (by omega) (Ev.neg (by omega) ?_))))))))
      rw [ep, eq, wrapI (n := p) (by omega) (by omega), wrapI (n := q) (by omega) (by omega), wrapI (n := a.1 * q) (by omega) (by omega), wrapI (n := b.1 * p) (by omega) (by omega), wrapI (n := a.1 * q + b.1 * p) (by omega) (by omega), wrapI (n := p * b.2.1) (by omega) (by omega)]
      have hm : mk (a.1 * b.2.1 + b.1 * a.2.1) (a.2.1 * b.2.1) = mk (a.1 * q + b.1 * p) (p * b.2.1) := by
        rw [← mk_mul g (a.1 * q + b.1 * p) (p * b.2.1) hg m4]
        congr 1
        · rw [Int.mul_add, Int.mul_left_comm g a.1 q, Int.mul_left_comm g b.1 p, ← hq, ← hp]
        · rw [← Int.mul_assoc, ← hp]
      rw [hm]
      have h5 := gcdI_pos (absI (a.1 * q + b.1 * p)) (p * b.2.1) (by omega)
      refine Ev.bind (specAbs_ev _ (by omega) (by omega)) (Ev.bind (specGcd_ev _ _ (by unfold absI; omega) (by omega)) (Ev.neg (by omega) (Ev.neg (by omega) ?_)))
      simp only [wrap_tdiv (a.1 * q + b.1 * p) _ (by omega) (by omega), wrap_tdiv (p * b.2.1) _ (by omega) (by omega)]
      refine Ev.bind (specIsRatio_ev _) ?_
      unfold mk
      by_cases c : isR (Int.tdiv (a.1 * q + b.1 * p) (gcdI (absI (a.1 * q + b.1 * p)) (p * b.2.1))) (Int.tdiv (p * b.2.1) (gcdI (absI (a.1 * q + b.1 * p)) (p * b.2.1))) = true
      · exact Ev.neg (by simp [c]) (Ev.ret.val (by rw [if_pos c]))
      · exact Ev.pos (by simpa using c) (Ev.ret.val (by rw [if_neg c]; rfl))
    · exact Ev.eq (fun k => spec_AddRatio_eq k a b) (Ev.bind (specIsRatio_ev a) (Ev.neg (by simp [ca]) (Ev.bind (specIsRatio_ev b) (Ev.pos (by simpa using cb) (Ev.ret.val (by rw [if_neg (fun h => cb h.2)]; rfl))))))
  · exact Ev.eq (fun k => spec_AddRatio_eq k a b) (Ev.bind (specIsRatio_ev a) (Ev.pos (by simpa using ca) (Ev.ret.val (by rw [if_neg (fun h => ca h.1)]; rfl))))
theorem specMin_ev (a b : Int) : Ev (fun k => spec_Min k a b) (min a b) := by
  by_cases c : b < a
  · exact Ev.eq (fun k => spec_Min_eq k a b) (Ev.pos c (Ev.ret.val (by omega)))
  · exact Ev.eq (fun k => spec_Min_eq k a b) (Ev.neg c (Ev.ret.val (by omega)))
theorem nan_ev (x : Int) : Ev (fun k => cmp_isNaN_int k x) false := Ev.eq (fun k => cmp_isNaN_int_eq k x) (Ev.ret.val (by simp))
def cmpI (x y : Int) : Int := if x < y then -1 else if y < x then 1 else 0
theorem cmp_ev (x y : Int) : Ev (fun k => cmp_Compare_int k x y) (cmpI x y) := by
  unfold cmpI
  by_cases c : x < y
  · exact Ev.eq (fun k => cmp_Compare_int_eq k x y) (Ev.bind (nan_ev x) (Ev.bind (nan_ev y) (Ev.neg (by simp) (Ev.neg (by simp) (Ev.pos c (Ev.ret.val (by rw [if_pos c])))))))
  · by_cases c2 : y < x
    · exact Ev.eq (fun k => cmp_Compare_int_eq k x y) (Ev.bind (nan_ev x) (Ev.bind (nan_ev y) (Ev.neg (by simp) (Ev.neg (by simp) (Ev.neg c (Ev.pos c2 (Ev.ret.val (by rw [if_neg c, if_pos c2]))))))))
    · exact Ev.eq (fun k => cmp_Compare_int_eq k x y) (Ev.bind (nan_ev x) (Ev.bind (nan_ev y) (Ev.neg (by simp) (Ev.neg (by simp) (Ev.neg c (Ev.neg c2 (Ev.ret.val (by rw [if_neg c, if_neg c2]))))))))
theorem dec_of {f : Nat → Option Bool} {p : Prop} [d : Decidable p] (h : ∃ r, Ev f r ∧ (r = true ↔ p)) : Ev f (decide p) := by
  obtain ⟨r, e, hr⟩ := h
  exact e.val (by rw [Bool.eq_iff_iff, hr]; simp)
theorem loop_allE {F : Int → Nat → Nat → Option Bool} {n : Nat} (Q : Nat → Prop) (c : Bool) (hend : E2 (F (n : Int)) c)
    (hgo : ∀ i, i < n → Q i → ∀ v, E2 (F ((i + 1 : Nat) : Int)) v → E2 (F (i : Int)) v) (hstop : ∀ i, i < n → ¬ Q i → E2 (F (i : Int)) false) :
    ∃ r, E2 (F 0) r ∧ (r = true ↔ (∀ i, i < n → Q i) ∧ c = true) := by
  have key : ∀ d i, i + d = n → ∃ r, E2 (F (i : Int)) r ∧ (r = true ↔ (∀ j, i ≤ j → j < n → Q j) ∧ c = true) := by
    intro d
    induction d with
    | zero =>
      intro i hi
      have hi : i = n := by omega
      subst hi
      exact ⟨c, hend, ⟨fun h => ⟨fun j _ _ => by omega, h⟩, fun h => h.2⟩⟩
    | succ d ih =>
      intro i hi
      obtain ⟨r, er, hr⟩ := ih (i + 1) (by omega)
      by_cases hq : Q i
      · refine ⟨r, hgo i (by omega) hq r er, hr.trans ⟨fun h => ⟨fun j h1 h2 => ?_, h.2⟩, fun h => ⟨fun j h1 h2 => h.1 j (by omega) h2, h.2⟩⟩⟩
        by_cases hj : j = i
        · subst hj; exact hq
        · exact h.1 j (by omega) h2
      · exact ⟨false, hstop i (by omega) hq, by simp only [Bool.false_eq_true, false_iff]; exact fun h => hq (h.1 i (Nat.le_refl _) (by omega))⟩
  obtain ⟨r, er, hr⟩ := key n 0 (by omega)
  exact ⟨r, er, hr.trans ⟨fun h => ⟨fun i hi => h.1 i (Nat.zero_le _) hi, h.2⟩, fun h => ⟨fun i _ hi => h.1 i hi, h.2⟩⟩⟩
theorem wrapP {i : Nat} (h : 0 < i) (h2 : i < 9223372036854775807) : IntKind.wrap .i64 ((i : Int) - 1) = ((i - 1 : Nat) : Int) := by
  rw [wrapI (by omega) (by omega)]; omega
def okE (e : DT80) : Prop := (0 ≤ (e.1 : Int) ∧ (e.1 : Int) ≤ 2000) ∧ (1 ≤ (e.2.1 : Int) ∧ (e.2.1 : Int) ≤ 96) ∧ (21 ≤ (e.2.2.1 : Int) ∧ (e.2.2.1 : Int) ≤ 108) ∧ 1 ≤ (e.2.2.2.1 : Int) ∧ (e.2.2.2.1 : Int) ≤ 4
instance (e : DT80) : Decidable (okE e) := by unfold okE; infer_instance
theorem l8Ok_ev (e : DT80) : Ev (fun k => spec_l8Ok k e) (decide (okE e)) := by
  refine Ev.eq (fun k => spec_l8Ok_eq k e) (Ev.bind (l1In_ev _ _ _) ?_)
  unfold okE
  by_cases c1 : 0 ≤ (e.1 : Int) ∧ (e.1 : Int) ≤ 2000
  · refine Ev.pos (by simp [c1]) (Ev.bind (l1In_ev _ _ _) ?_)
    by_cases c2 : 1 ≤ (e.2.1 : Int) ∧ (e.2.1 : Int) ≤ 96
    · refine Ev.pos (by simp [c2]) (Ev.bind (l1In_ev _ _ _) ?_)
      by_cases c3 : 21 ≤ (e.2.2.1 : Int) ∧ (e.2.2.1 : Int) ≤ 108
      · exact Ev.pos (by simp [c3]) (Ev.bind (l1In_ev _ _ _) (Ev.ret.val (by simp only [c1, c2, c3, true_and, and_self, decide_eq_true_eq])))
      · exact Ev.neg (by simpa using c3) (Ev.ret.val (by simp only [c3, false_and, and_false, decide_false]))
    · exact Ev.neg (by simpa using c2) (Ev.ret.val (by simp only [c2, false_and, and_false, decide_false]))
  · exact Ev.neg (by simpa using c1) (Ev.ret.val (by simp only [c1, false_and, decide_false]))
def bef (a b : DT80) : Prop := (a.1 : Int) < b.1 ∨ (a.1 : Int) = b.1 ∧ ((a.2.2.2.1 : Int) < b.2.2.2.1 ∨ (a.2.2.2.1 : Int) = b.2.2.2.1 ∧ (a.2.2.1 : Int) < b.2.2.1)
instance (a b : DT80) : Decidable (bef a b) := by unfold bef; infer_instance
theorem before_ev (a b : DT80) : Ev (fun k => spec_l8Before k a b) (decide (bef a b)) := by
  refine Ev.eq (fun k => spec_l8Before_eq k a b) ?_
  unfold bef
  by_cases c1 : (a.1 : Int) = b.1
  · refine Ev.neg (by omega) ?_
    by_cases c2 : (a.2.2.2.1 : Int) = b.2.2.2.1
    · exact Ev.neg (by omega) (Ev.ret.val (by congr 1; exact propext ⟨fun h => .inr ⟨c1, .inr ⟨c2, h⟩⟩, fun h => by omega⟩))
    · exact Ev.pos (by omega) (Ev.ret.val (by congr 1; exact propext ⟨fun h => .inr ⟨c1, .inl h⟩, fun h => by omega⟩))
  · exact Ev.pos (by omega) (Ev.ret.val (by congr 1; exact propext ⟨fun h => .inl h, fun h => by omega⟩))
def orI (x y : Int) : Int := if x ≠ 0 then x else y
theorem or_ev (x y z : Int) : Ev (fun k => cmp_Or_int k [x, y, z]) (orI x (orI y z)) := by
  refine Ev.eq (fun k => cmp_Or_int_eq k _) (Ev.loop (f := fun k m => cmp_Or_int.l0 k m 0 [x, y, z] ((List.length [x, y, z] : Nat) : Int) 0) ?_)
  have w0 : IntKind.wrap .i64 ((0 : Int) + 1) = 1 := wrapI (by omega) (by omega)
  have w1 : IntKind.wrap .i64 ((1 : Int) + 1) = 2 := wrapI (by omega) (by omega)
  have w2 : IntKind.wrap .i64 ((2 : Int) + 1) = 3 := wrapI (by omega) (by omega)
  have r0 : rd (.int .i64) [x, y, z] 0 = x := rfl
  have r1 : rd (.int .i64) [x, y, z] 1 = y := rfl
  have r2 : rd (.int .i64) [x, y, z] 2 = z := rfl
  have hl : ((List.length [x, y, z] : Nat) : Int) = 3 := rfl
  unfold orI
  refine E2.eq (fun k m => cmp_Or_int.l0_eq k m 0 [x, y, z] _ 0) (E2.pos (by rw [hl]; omega) (E2.pos (by omega) (E2.pos (by rw [hl]; omega) ?_)))
  simp only [r0, w0]
  by_cases c0 : x = 0
  · refine E2.neg (fun h => h c0) ?_
    rw [if_neg (show ¬ x ≠ 0 by omega)]
    refine E2.eq (fun k m => cmp_Or_int.l0_eq k m 0 [x, y, z] _ 1) (E2.pos (by rw [hl]; omega) (E2.pos (by omega) (E2.pos (by rw [hl]; omega) ?_)))
    simp only [r1, w1]
    by_cases c1 : y = 0
    · refine E2.neg (fun h => h c1) ?_
      rw [if_neg (show ¬ y ≠ 0 by omega)]
      refine E2.eq (fun k m => cmp_Or_int.l0_eq k m 0 [x, y, z] _ 2) (E2.pos (by rw [hl]; omega) (E2.pos (by omega) (E2.pos (by rw [hl]; omega) ?_)))
      simp only [r2, w2]
      by_cases c2 : z = 0
      · exact E2.neg (fun h => h c2) (E2.eq (fun k m => cmp_Or_int.l0_eq k m 0 [x, y, z] _ 3) (E2.neg (by rw [hl]; omega) (E2.ret.val c2.symm)))
      · exact E2.pos c2 E2.ret
    · rw [if_pos c1]; exact E2.pos c1 E2.ret
  · rw [if_pos c0]; exact E2.pos c0 E2.ret
def ordI (a b : DT80) : Int := orI (cmpI a.1 b.1) (orI (cmpI a.2.2.2.1 b.2.2.2.1) (cmpI a.2.2.1 b.2.2.1))
theorem order_ev (a b : DT80) : Ev (fun k => impl_eventOrder k a b) (ordI a b) :=
  Ev.eq (fun k => impl_eventOrder_eq k a b) (Ev.bind (cmp_ev _ _) (Ev.bind (cmp_ev _ _) (Ev.bind (cmp_ev _ _) (Ev.bind (or_ev _ _ _) Ev.ret))))
theorem ordI_lt (a b : DT80) : ordI a b < 0 ↔ bef a b := by
  unfold ordI orI cmpI bef
  repeat' split
  all_goals omega
def QS (l : List DT80) (i : Nat) : Prop := okE (rd T80 l (i : Int)) ∧ (0 < i → bef (rd T80 l ((i - 1 : Nat) : Int)) (rd T80 l (i : Int)))
instance (l : List DT80) (i : Nat) : Decidable (QS l i) := by unfold QS; infer_instance
def scoreP (l : List DT80) : Prop := (∀ i, i < l.length → QS l i) ∧ decide (((l.length : Nat) : Int) ≤ 40) = true
instance (l : List DT80) : Decidable (scoreP l) := by unfold scoreP; infer_instance
theorem specScore_ev (l : List DT80) (hl : l.length ≤ 1048576) : Ev (fun k => spec_IsScore k l) (decide (scoreP l)) := by
  refine dec_of ?_
  obtain ⟨r, er, hr⟩ := loop_allE (F := fun i k m => spec_IsScore.l0 k m l i) (n := l.length) (QS l) (decide (((l.length : Nat) : Int) ≤ 40)) (E2.eq (fun k m => spec_IsScore.l0_eq k m l _) (E2.neg (by omega) E2.ret)) (fun i hi hq v e => by
    refine E2.eq (fun k m => spec_IsScore.l0_eq k m l _) (E2.pos (by omega) (E2.pos (by omega) (E2.pos (by omega) (E2.bind (l8Ok_ev _) (E2.neg (by simpa using hq.1) ?_)))))
    by_cases c : 0 < i
    · refine E2.pos (by omega) ?_
      simp only [wrapP c (show i < 9223372036854775807 by omega), wrapS (show i < 9223372036854775807 by omega)]
      exact E2.pos (by omega) (E2.pos (by omega) (E2.pos (by omega) (E2.pos (by omega) (E2.bind (before_ev _ _) (E2.neg (by simpa using hq.2 c) e)))))
    · refine E2.neg (by omega) ?_
      simp only [wrapS (show i < 9223372036854775807 by omega)]
      exact e) (fun i hi hq => by
    refine E2.eq (fun k m => spec_IsScore.l0_eq k m l _) (E2.pos (by omega) (E2.pos (by omega) (E2.pos (by omega) (E2.bind (l8Ok_ev _) ?_))))
    by_cases c0 : okE (rd T80 l (i : Int))
    · refine E2.neg (by simpa using c0) ?_
      have c : 0 < i := by
        rcases Nat.eq_zero_or_pos i with h | h
        · exact absurd ⟨c0, fun h' => by omega⟩ hq
        · exact h
      have c1 : ¬ bef (rd T80 l ((i - 1 : Nat) : Int)) (rd T80 l (i : Int)) := fun h => hq ⟨c0, fun _ => h⟩
      refine E2.pos (by omega) ?_
      simp only [wrapP c (show i < 9223372036854775807 by omega)]
      exact E2.pos (by omega) (E2.pos (by omega) (E2.pos (by omega) (E2.pos (by omega) (E2.bind (before_ev _ _) (E2.pos (by simpa using c1) E2.ret)))))
    · exact E2.pos (by simpa using c0) E2.ret)
  exact ⟨r, Ev.eq (fun k => spec_IsScore_eq k l) (Ev.loop (f := fun k m => spec_IsScore.l0 k m l 0) er), hr⟩
theorem implScore_ev (l : List DT80) (hl : l.length ≤ 1048576) : Ev (fun k => impl_IsScore k l) (decide (scoreP l)) := by
  refine dec_of ?_
  obtain ⟨r, er, hr⟩ := loop_allE (F := fun i k m => impl_IsScore.l0 k m l l ((List.length l : Nat) : Int) i) (n := l.length) (QS l) (decide (((l.length : Nat) : Int) ≤ 40)) (E2.eq (fun k m => impl_IsScore.l0_eq k m l l _ _) (E2.neg (by omega) E2.ret)) (fun i hi hq v e => by
    obtain ⟨⟨h1, h2, h3, h4⟩, h5⟩ := hq
    refine E2.eq (fun k m => impl_IsScore.l0_eq k m l l _ _) (E2.pos (by omega) (E2.pos (by omega) (E2.pos (by omega) (E2.bind (inRange_ev _ _ _) (E2.neg (by simpa using h1) (E2.bind (inRange_ev _ _ _) (E2.neg (by simpa using h2) (E2.bind (inRange_ev _ _ _) (E2.neg (by simpa using h3) (E2.bind (inRange_ev _ _ _) (E2.neg (by simpa using h4) ?_)))))))))))
    by_cases c : 0 < i
    · refine E2.pos (by omega) ?_
      simp only [wrapP c (show i < 9223372036854775807 by omega), wrapS (show i < 9223372036854775807 by omega)]
      have := (ordI_lt _ _).2 (h5 c)
      exact E2.pos (by omega) (E2.pos (by omega) (E2.bind (order_ev _ _) (E2.neg (by omega) e)))
    · refine E2.neg (by omega) ?_
      simp only [wrapS (show i < 9223372036854775807 by omega)]
      exact e) (fun i hi hq => by
    refine E2.eq (fun k m => impl_IsScore.l0_eq k m l l _ _) (E2.pos (by omega) (E2.pos (by omega) (E2.pos (by omega) (E2.bind (inRange_ev _ _ _) ?_))))
    by_cases h1 : 0 ≤ ((rd T80 l (i : Int)).1 : Int) ∧ ((rd T80 l (i : Int)).1 : Int) ≤ 2000
    · refine E2.neg (by simpa using h1) (E2.bind (inRange_ev _ _ _) ?_)
      by_cases h2 : 1 ≤ ((rd T80 l (i : Int)).2.1 : Int) ∧ ((rd T80 l (i : Int)).2.1 : Int) ≤ 96
      · refine E2.neg (by simpa using h2) (E2.bind (inRange_ev _ _ _) ?_)
        by_cases h3 : 21 ≤ ((rd T80 l (i : Int)).2.2.1 : Int) ∧ ((rd T80 l (i : Int)).2.2.1 : Int) ≤ 108
        · refine E2.neg (by simpa using h3) (E2.bind (inRange_ev _ _ _) ?_)
          by_cases h4 : 1 ≤ ((rd T80 l (i : Int)).2.2.2.1 : Int) ∧ ((rd T80 l (i : Int)).2.2.2.1 : Int) ≤ 4
          · refine E2.neg (by simpa using h4) ?_
            have c : 0 < i := by
              rcases Nat.eq_zero_or_pos i with h | h
              · exact absurd ⟨⟨h1, h2, h3, h4⟩, fun h' => by omega⟩ hq
              · exact h
            have c1 : ¬ bef (rd T80 l ((i - 1 : Nat) : Int)) (rd T80 l (i : Int)) := fun h => hq ⟨⟨h1, h2, h3, h4⟩, fun _ => h⟩
            refine E2.pos (by omega) ?_
            simp only [wrapP c (show i < 9223372036854775807 by omega)]
            have := mt (ordI_lt _ _).1 c1
            exact E2.pos (by omega) (E2.pos (by omega) (E2.bind (order_ev _ _) (E2.pos (by omega) E2.ret)))
          · exact E2.pos (by simpa using h4) E2.ret
        · exact E2.pos (by simpa using h3) E2.ret
      · exact E2.pos (by simpa using h2) E2.ret
    · exact E2.pos (by simpa using h1) E2.ret)
  exact ⟨r, Ev.eq (fun k => impl_IsScore_eq k l) (Ev.loop (f := fun k m => impl_IsScore.l0 k m l l ((List.length l : Nat) : Int) 0) er), hr⟩
def okT (t : DT23) : Prop := (20 ≤ (t.2.1 : Int) ∧ (t.2.1 : Int) ≤ 300) ∧ (0 ≤ (t.1 : Int) ∧ (t.1 : Int) ≤ 2000)
instance (e : DT23) : Decidable (okT e) := by unfold okT; infer_instance
def QT (l : List DT23) (i : Nat) : Prop := okT (rd T23 l (i : Int)) ∧ (i = 0 → Eq (α := Int) (rd T23 l (i : Int)).1 0) ∧ (0 < i → LT.lt (α := Int) (rd T23 l ((i - 1 : Nat) : Int)).1 (rd T23 l (i : Int)).1)
instance (l : List DT23) (i : Nat) : Decidable (QT l i) := by unfold QT; infer_instance
def tempoP (l : List DT23) : Prop := (∀ i, i < l.length → QT l i) ∧ decide (1 ≤ ((l.length : Nat) : Int) ∧ ((l.length : Nat) : Int) ≤ 8) = true
instance (l : List DT23) : Decidable (tempoP l) := by unfold tempoP; infer_instance
theorem specTempo_ev (l : List DT23) (hl : l.length ≤ 1048576) : Ev (fun k => spec_IsTempo k l) (decide (tempoP l)) := by
  refine dec_of ?_
  obtain ⟨r, er, hr⟩ := loop_allE (F := fun i k m => spec_IsTempo.l0 k m l i) (n := l.length) (QT l) (decide (1 ≤ ((l.length : Nat) : Int) ∧ ((l.length : Nat) : Int) ≤ 8)) (E2.eq (fun k m => spec_IsTempo.l0_eq k m l _) (E2.neg (by omega) (E2.bind (l1In_ev _ _ _) (E2.ret.val (by simp))))) (fun i hi hq v e => by
    obtain ⟨⟨h1, h2⟩, h3, h4⟩ := hq
    refine E2.eq (fun k m => spec_IsTempo.l0_eq k m l _) (E2.pos (by omega) (E2.pos (by omega) (E2.pos (by omega) (E2.bind (l1In_ev _ _ _) (E2.neg (by simpa using h1) (E2.pos (by omega) (E2.pos (by omega) (E2.bind (l1In_ev _ _ _) (E2.neg (by simpa using h2) ?_)))))))))
    simp only [wrapS (show i < 9223372036854775807 by omega)]
    by_cases c : 0 < i
    · refine E2.neg (by omega) (E2.pos (by omega) ?_)
      simp only [wrapP c (show i < 9223372036854775807 by omega)]
      have := h4 c
      exact E2.pos (by omega) (E2.pos (by omega) (E2.pos (by omega) (E2.pos (by omega) (E2.neg (by omega) e))))
    · refine E2.pos (by omega) (E2.pos (by omega) (E2.pos (by omega) (E2.neg (fun h => h (h3 (by omega))) (E2.neg (by omega) e))))) (fun i hi hq => by
    refine E2.eq (fun k m => spec_IsTempo.l0_eq k m l _) (E2.pos (by omega) (E2.pos (by omega) (E2.pos (by omega) (E2.bind (l1In_ev _ _ _) ?_))))
    by_cases h1 : LE.le (α := Int) 20 (rd T23 l (i : Int)).2.1 ∧ LE.le (α := Int) (rd T23 l (i : Int)).2.1 300
    · refine E2.neg (by simpa using h1) (E2.pos (by omega) (E2.pos (by omega) (E2.bind (l1In_ev _ _ _) ?_)))
      by_cases h2 : LE.le (α := Int) 0 (rd T23 l (i : Int)).1 ∧ LE.le (α := Int) (rd T23 l (i : Int)).1 2000
      · refine E2.neg (by simpa using h2) ?_
        by_cases c : 0 < i
        · refine E2.neg (by omega) (E2.pos (by omega) ?_)
          simp only [wrapP c (show i < 9223372036854775807 by omega)]
          have h4 : ¬ LT.lt (α := Int) (rd T23 l ((i - 1 : Nat) : Int)).1 (rd T23 l (i : Int)).1 := fun h => hq ⟨⟨h1, h2⟩, fun h' => by omega, fun _ => h⟩
          exact E2.pos (by omega) (E2.pos (by omega) (E2.pos (by omega) (E2.pos (by omega) (E2.pos (by omega) E2.ret))))
        · have h3 : ¬ Eq (α := Int) (rd T23 l (i : Int)).1 0 := fun h => hq ⟨⟨h1, h2⟩, fun _ => h, fun h' => absurd h' c⟩
          exact E2.pos (by omega) (E2.pos (by omega) (E2.pos (by omega) (E2.pos h3 E2.ret)))
      · exact E2.pos (by simpa using h2) E2.ret
    · exact E2.pos (by simpa using h1) E2.ret)
  exact ⟨r, Ev.eq (fun k => spec_IsTempo_eq k l) (Ev.loop (f := fun k m => spec_IsTempo.l0 k m l 0) er), hr⟩
/-- The program's own test of an element: it leaves out what follows from the one before. -/
def QT' (l : List DT23) (i : Nat) : Prop := (i = 0 → Eq (α := Int) (rd T23 l (i : Int)).1 0) ∧ (0 < i → LT.lt (α := Int) (rd T23 l ((i - 1 : Nat) : Int)).1 (rd T23 l (i : Int)).1) ∧ LE.le (α := Int) (rd T23 l (i : Int)).1 2000 ∧ (LE.le (α := Int) 20 (rd T23 l (i : Int)).2.1 ∧ LE.le (α := Int) (rd T23 l (i : Int)).2.1 300)
theorem QT_iff (l : List DT23) : (∀ i, i < l.length → QT' l i) ↔ (∀ i, i < l.length → QT l i) := by
  constructor
  · intro h
    have hp : ∀ i, i < l.length → LE.le (α := Int) 0 (rd T23 l (i : Int)).1 := by
      intro i
      induction i with
      | zero => intro hi; have := (h 0 hi).1 rfl; omega
      | succ i ih =>
        intro hi
        have h1 := ih (by omega)
        have h2 := (h (i + 1) hi).2.1 (by omega)
        simp only [Nat.add_sub_cancel] at h2
        omega
    intro i hi
    obtain ⟨h1, h2, h3, h4⟩ := h i hi
    exact ⟨⟨h4, hp i hi, h3⟩, h1, h2⟩
  · intro h i hi
    obtain ⟨⟨h1, h2, h3⟩, h4, h5⟩ := h i hi
    exact ⟨h4, h5, h3, h1⟩
theorem implTempo_ev (l : List DT23) (hl : l.length ≤ 1048576) : Ev (fun k => impl_IsTempo k l) (decide (tempoP l)) := by
  refine dec_of ?_
  obtain ⟨r, er, hr⟩ := loop_allE (F := fun i k m => impl_IsTempo.l0 k m l l ((List.length l : Nat) : Int) i) (n := l.length) (QT' l) (decide (1 ≤ ((l.length : Nat) : Int) ∧ ((l.length : Nat) : Int) ≤ 8)) (E2.eq (fun k m => impl_IsTempo.l0_eq k m l l _ _) (E2.neg (by omega) (E2.bind (inRange_ev _ _ _) (E2.ret.val (by simp))))) (fun i hi hq v e => by
    obtain ⟨h3, h4, h5, h6⟩ := hq
    refine E2.eq (fun k m => impl_IsTempo.l0_eq k m l l _ _) (E2.pos (by omega) (E2.pos (by omega) (E2.pos (by omega) ?_)))
    simp only [wrapS (show i < 9223372036854775807 by omega)]
    by_cases c : 0 < i
    · refine E2.neg (by omega) (E2.pos (by omega) ?_)
      simp only [wrapP c (show i < 9223372036854775807 by omega)]
      have := h4 c
      exact E2.pos (by omega) (E2.pos (by omega) (E2.neg (by omega) (E2.neg (by omega) (E2.bind (inRange_ev _ _ _) (E2.neg (by simpa using h6) e)))))
    · exact E2.pos (by omega) (E2.neg (fun h => h (h3 (by omega))) (E2.neg (by omega) (E2.neg (by omega) (E2.bind (inRange_ev _ _ _) (E2.neg (by simpa using h6) e)))))) (fun i hi hq => by
    refine E2.eq (fun k m => impl_IsTempo.l0_eq k m l l _ _) (E2.pos (by omega) (E2.pos (by omega) (E2.pos (by omega) ?_)))
    by_cases c : 0 < i
    · refine E2.neg (by omega) (E2.pos (by omega) ?_)
      simp only [wrapP c (show i < 9223372036854775807 by omega)]
      refine E2.pos (by omega) (E2.pos (by omega) ?_)
      by_cases h4 : LT.lt (α := Int) (rd T23 l ((i - 1 : Nat) : Int)).1 (rd T23 l (i : Int)).1
      · refine E2.neg (by omega) ?_
        by_cases h5 : LE.le (α := Int) (rd T23 l (i : Int)).1 2000
        · exact E2.neg (by omega) (E2.bind (inRange_ev _ _ _) (E2.pos (by simp only [decide_eq_true_eq]; exact fun h6 => hq ⟨fun h => by omega, fun _ => h4, h5, h6⟩) E2.ret))
        · exact E2.pos (by omega) E2.ret
      · exact E2.pos (by omega) E2.ret
    · refine E2.pos (by omega) ?_
      by_cases h3 : Eq (α := Int) (rd T23 l (i : Int)).1 0
      · refine E2.neg (fun h => h h3) (E2.neg (by omega) (E2.neg (by omega) (E2.bind (inRange_ev _ _ _) (E2.pos (by simp only [decide_eq_true_eq]; exact fun h6 => hq ⟨fun _ => h3, fun h => absurd h c, by omega, h6⟩) E2.ret))))
      · exact E2.pos h3 E2.ret)
  exact ⟨r, Ev.eq (fun k => impl_IsTempo_eq k l) (Ev.loop (f := fun k m => impl_IsTempo.l0 k m l l ((List.length l : Nat) : Int) 0) er), hr.trans (and_congr (QT_iff l) Iff.rfl)⟩
theorem isR_00 : isR 0 0 = false := by unfold isR; simp
theorem mk_no {n d : Int} (h : (mk n d).2.1 = false) : mk n d = noR := by
  unfold mk at h ⊢
  split
  · rename_i c; rw [if_pos c] at h; cases h
  · rfl
theorem add_no {a b : DT23} (h : (addR a b).2.1 = false) : addR a b = noR := by
  unfold addR at h ⊢
  split
  · rename_i c; rw [if_pos c] at h; exact mk_no h
  · rfl
theorem add_noR (a : DT23) : addR a noR.1 = noR := by
  unfold addR noR
  rw [if_neg (by rw [isR_00]; simp)]
theorem timeOf_both (l : List DT23) (tick : Int) (hl : l.length ≤ 1048576) : ∃ v : Res, Ev (fun k => spec_TimeOf k l tick) v ∧ Ev (fun k => impl_TimeOf k l tick) v ∧ (v.2.1 = false → v = noR) := by
  by_cases hp : tempoP l
  · by_cases ht : 0 ≤ tick ∧ tick ≤ 2000
    · have key : ∀ d (i : Nat) (a b x y : Int), i + d = l.length → ∃ v : Res, E2 (fun k m => spec_TimeOf.l0 k m l tick (i : Int) a b x y) v ∧ E2 (fun k m => impl_TimeOf.l0 k m l tick l ((List.length l : Nat) : Int) (i : Int) a b x y) v ∧ (v.2.1 = false → v = noR) := by
        intro d
        induction d with
        | zero =>
          intro i a b x y hi
          exact ⟨((x, (y, ())), (true, ())), E2.eq (fun k m => spec_TimeOf.l0_eq k m l tick _ a b x y) (E2.neg (by omega) E2.ret), E2.eq (fun k m => impl_TimeOf.l0_eq k m l tick l _ _ a b x y) (E2.neg (by omega) E2.ret), fun h => by cases h⟩
        | succ d ih =>
          intro i a b x y hi
          obtain ⟨⟨⟨q1, q2⟩, q3, q4⟩, q5, q6⟩ := hp.1 i (by omega)
          by_cases hend : LT.lt (α := Int) (rd T23 l (i : Int)).1 tick
          · have fin : ∀ (en : Int), LT.lt (α := Int) (rd T23 l (i : Int)).1 en → en ≤ 2000 →
                ∃ p q : Res, (∀ {g : Nat → Nat → Res → Option Res} {u : Res}, E2 (fun k m => g k m p) u → E2 (fun k m => (spec_MakeRatio k (IntKind.wrap .i64 ((IntKind.wrap .i64 (en - (rd T23 l (i : Int)).1)) * 5000)) (rd T23 l (i : Int)).2.1).bind fun r => g k m r) u) ∧
                (∀ {g : Nat → Nat → Res → Option Res} {u : Res}, E2 (fun k m => g k m p) u → E2 (fun k m => (impl_MakeRatio k (IntKind.wrap .i64 ((IntKind.wrap .i64 (en - (rd T23 l (i : Int)).1)) * 5000)) (rd T23 l (i : Int)).2.1).bind fun r => g k m r) u) ∧ q = addR (x, (y, ())) p.1 ∧ (p.2.1 = false → q = noR) := by
              intro en h1 h2
              have w1 : IntKind.wrap .i64 (en - (rd T23 l (i : Int)).1) = en - (rd T23 l (i : Int)).1 := wrapI (by omega) (by omega)
              have w2 : IntKind.wrap .i64 ((en - (rd T23 l (i : Int)).1) * 5000) = (en - (rd T23 l (i : Int)).1) * 5000 := wrapI (by omega) (by omega)
              rw [w1, w2]
              refine ⟨mk ((en - (rd T23 l (i : Int)).1) * 5000) (rd T23 l (i : Int)).2.1, _, fun e => E2.bind (specMake_ev _ _ (by omega) (by omega) (by omega) (by omega)) e, fun e => E2.bind (implMake_ev _ _ (by omega) (by omega) (by omega) (by omega)) e, rfl, fun h => ?_⟩
              rw [mk_no h, add_noR]
            have tail : ∀ (p q : Res), q = addR (x, (y, ())) p.1 → (p.2.1 = false → q = noR) → ∃ v : Res, (v.2.1 = false → v = noR) ∧ E2 (fun k m => (spec_AddRatio k (x, (y, ())) p.1).bind fun r5 =>
                  if ¬ (r5.2.1 = true) then some ((0, (0, ())), (false, ())) else spec_TimeOf.l0 k m l tick ((i + 1 : Nat) : Int) a b r5.1.1 r5.1.2.1) v ∧
                E2 (fun k m => (impl_AddRatio k (x, (y, ())) p.1).bind fun r4 => if ¬ (p.2.1 = true) then some ((0, (0, ())), (false, ())) else if ¬ (r4.2.1 = true) then some ((0, (0, ())), (false, ())) else impl_TimeOf.l0 k m l tick l ((List.length l : Nat) : Int) ((i + 1 : Nat) : Int) a b r4.1.1 r4.1.2.1) v := by
              intro p q hq hpq
              by_cases hok : q.2.1 = true
              · have hp1 : p.2.1 = true := by
                  cases h : p.2.1 with
                  | true => rfl
                  | false => rw [hpq h] at hok; cases hok
                obtain ⟨v, e1, e2, e3⟩ := ih (i + 1) a b q.1.1 q.1.2.1 (by omega)
                refine ⟨v, e3, E2.bind (specAdd_ev _ _) ?_, E2.bind (implAdd_ev _ _) ?_⟩
                · rw [← hq]; exact E2.neg (by simpa using hok) e1
                · rw [← hq]; exact E2.neg (by simpa using hp1) (E2.neg (by simpa using hok) e2)
              · have hno : q = noR := by rw [hq]; rw [hq] at hok; exact add_no (by simpa using hok)
                refine ⟨noR, fun _ => rfl, E2.bind (specAdd_ev _ _) ?_, E2.bind (implAdd_ev _ _) ?_⟩
                · rw [← hq]; exact E2.pos hok E2.ret
                · rw [← hq]
                  by_cases hp1 : p.2.1 = true
                  · exact E2.neg (by simpa using hp1) (E2.pos hok E2.ret)
                  · exact E2.pos hp1 E2.ret
            by_cases hn : i + 1 < l.length
            · obtain ⟨⟨⟨s1, s2⟩, s3, s4⟩, s5, s6⟩ := hp.1 (i + 1) hn
              have s6 := s6 (by omega)
              rw [Nat.add_sub_cancel] at s6
              obtain ⟨p, q, f1, f2, f3, f4⟩ := fin (min tick (rd T23 l ((i + 1 : Nat) : Int)).1) (by omega) (by omega)
              obtain ⟨v, t0, t1, t2⟩ := tail p q f3 f4
              refine ⟨v, E2.eq (fun k m => spec_TimeOf.l0_eq k m l tick _ a b x y) (E2.pos (by omega) (E2.pos (by omega) (E2.pos (by omega) (E2.pos hend ?_)))), E2.eq (fun k m => impl_TimeOf.l0_eq k m l tick l _ _ a b x y) (E2.pos (by omega) (E2.pos (by omega) (E2.pos (by omega) ?_))), t0⟩
              · simp only [wrapS (show i < 9223372036854775807 by omega)]
                exact E2.pos (by omega) (E2.pos (by omega) (E2.pos (by omega) (E2.bind (specMin_ev _ _) (E2.pos (by omega) (E2.pos (by omega) (E2.pos (by omega) (E2.pos (by omega) (f1 t1))))))))
              · simp only [wrapS (show i < 9223372036854775807 by omega)]
                exact E2.pos (by omega) (E2.pos (by omega) (E2.pos (by omega) (E2.neg (by omega) (f2 t2))))
            · obtain ⟨p, q, f1, f2, f3, f4⟩ := fin tick hend ht.2
              obtain ⟨v, t0, t1, t2⟩ := tail p q f3 f4
              refine ⟨v, E2.eq (fun k m => spec_TimeOf.l0_eq k m l tick _ a b x y) (E2.pos (by omega) (E2.pos (by omega) (E2.pos (by omega) (E2.pos hend ?_)))), E2.eq (fun k m => impl_TimeOf.l0_eq k m l tick l _ _ a b x y) (E2.pos (by omega) (E2.pos (by omega) (E2.pos (by omega) ?_))), t0⟩
              · simp only [wrapS (show i < 9223372036854775807 by omega)]
                exact E2.neg (by omega) (E2.pos (by omega) (E2.pos (by omega) (E2.pos (by omega) (E2.pos (by omega) (f1 t1)))))
              · simp only [wrapS (show i < 9223372036854775807 by omega)]
                exact E2.neg (by omega) (E2.neg (by omega) (f2 t2))
          · refine ⟨((x, (y, ())), (true, ())), E2.eq (fun k m => spec_TimeOf.l0_eq k m l tick _ a b x y) (E2.pos (by omega) (E2.pos (by omega) (E2.pos (by omega) (E2.neg hend E2.ret)))), E2.eq (fun k m => impl_TimeOf.l0_eq k m l tick l _ _ a b x y) (E2.pos (by omega) (E2.pos (by omega) (E2.pos (by omega) ?_))), fun h => by cases h⟩
            simp only [wrapS (show i < 9223372036854775807 by omega)]
            by_cases hn : i + 1 < l.length
            · exact E2.pos (by omega) (E2.pos (by omega) (E2.pos (by omega) (E2.pos (by omega) E2.ret)))
            · exact E2.neg (by omega) (E2.pos (by omega) E2.ret)
      obtain ⟨v, e1, e2, e3⟩ := key l.length 0 0 0 0 1 (by omega)
      exact ⟨v, Ev.eq (fun k => spec_TimeOf_eq k l tick) (Ev.bind (specTempo_ev l hl) (Ev.neg (by simpa using hp) (Ev.bind (l1In_ev _ _ _) (Ev.neg (by simpa using ht) (Ev.loop (f := fun k m => spec_TimeOf.l0 k m l tick 0 0 0 0 1) e1))))),
        Ev.eq (fun k => impl_TimeOf_eq k l tick) (Ev.bind (implTempo_ev l hl) (Ev.neg (by simpa using hp) (Ev.bind (inRange_ev _ _ _) (Ev.neg (by simpa using ht) (Ev.loop (f := fun k m => impl_TimeOf.l0 k m l tick l ((List.length l : Nat) : Int) 0 0 0 0 1) e2))))), e3⟩
    · exact ⟨noR, Ev.eq (fun k => spec_TimeOf_eq k l tick) (Ev.bind (specTempo_ev l hl) (Ev.neg (by simpa using hp) (Ev.bind (l1In_ev _ _ _) (Ev.pos (by simpa using ht) Ev.ret)))),
        Ev.eq (fun k => impl_TimeOf_eq k l tick) (Ev.bind (implTempo_ev l hl) (Ev.neg (by simpa using hp) (Ev.bind (inRange_ev _ _ _) (Ev.pos (by simpa using ht) Ev.ret)))), fun _ => rfl⟩
  · exact ⟨noR, Ev.eq (fun k => spec_TimeOf_eq k l tick) (Ev.bind (specTempo_ev l hl) (Ev.pos (by simpa using hp) Ev.ret)),
      Ev.eq (fun k => impl_TimeOf_eq k l tick) (Ev.bind (implTempo_ev l hl) (Ev.pos (by simpa using hp) Ev.ret)), fun _ => rfl⟩
theorem specMeter_ev (m : DT23) : ∃ r, Ev (fun k => spec_IsMeter k m) r ∧ Ev (fun k => impl_IsMeter k m) r := by
  by_cases c1 : 1 ≤ (m.1 : Int) ∧ (m.1 : Int) ≤ 12
  · by_cases d1 : (m.2.1 : Int) = 1
    · exact ⟨true, Ev.eq (fun k => spec_IsMeter_eq k m) (Ev.bind (l1In_ev _ _ _) (Ev.pos (by simpa using c1) (Ev.pos d1 Ev.ret))), Ev.eq (fun k => impl_IsMeter_eq k m) (Ev.bind (inRange_ev _ _ _) (Ev.pos (by simpa using c1) (Ev.pos d1 Ev.ret)))⟩
    · by_cases d2 : (m.2.1 : Int) = 2
      · exact ⟨true, Ev.eq (fun k => spec_IsMeter_eq k m) (Ev.bind (l1In_ev _ _ _) (Ev.pos (by simpa using c1) (Ev.neg d1 (Ev.pos d2 Ev.ret)))), Ev.eq (fun k => impl_IsMeter_eq k m) (Ev.bind (inRange_ev _ _ _) (Ev.pos (by simpa using c1) (Ev.neg d1 (Ev.pos d2 Ev.ret))))⟩
      · by_cases d3 : (m.2.1 : Int) = 4
        · exact ⟨true, Ev.eq (fun k => spec_IsMeter_eq k m) (Ev.bind (l1In_ev _ _ _) (Ev.pos (by simpa using c1) (Ev.neg d1 (Ev.neg d2 (Ev.pos d3 Ev.ret))))), Ev.eq (fun k => impl_IsMeter_eq k m) (Ev.bind (inRange_ev _ _ _) (Ev.pos (by simpa using c1) (Ev.neg d1 (Ev.neg d2 (Ev.pos d3 Ev.ret)))))⟩
        · exact ⟨_, Ev.eq (fun k => spec_IsMeter_eq k m) (Ev.bind (l1In_ev _ _ _) (Ev.pos (by simpa using c1) (Ev.neg d1 (Ev.neg d2 (Ev.neg d3 Ev.ret))))), Ev.eq (fun k => impl_IsMeter_eq k m) (Ev.bind (inRange_ev _ _ _) (Ev.pos (by simpa using c1) (Ev.neg d1 (Ev.neg d2 (Ev.neg d3 Ev.ret)))))⟩
  · exact ⟨false, Ev.eq (fun k => spec_IsMeter_eq k m) (Ev.bind (l1In_ev _ _ _) (Ev.neg (by simpa using c1) Ev.ret)), Ev.eq (fun k => impl_IsMeter_eq k m) (Ev.bind (inRange_ev _ _ _) (Ev.neg (by simpa using c1) Ev.ret))⟩
def befM (a b : DT91) : Prop := (a.1 : Int) < b.1 ∨ (a.1 : Int) = b.1 ∧ (a.2.1 : Int) < b.2.1
instance (a b : DT91) : Decidable (befM a b) := by unfold befM; infer_instance
theorem beforeM_ev (a b : DT91) : Ev (fun k => spec_l25Before k a b) (decide (befM a b)) := by
  refine Ev.eq (fun k => spec_l25Before_eq k a b) ?_
  unfold befM
  by_cases c1 : (a.1 : Int) < b.1
  · exact Ev.pos c1 (Ev.ret.val (by simp [c1]))
  · refine Ev.neg c1 ?_
    by_cases c2 : (a.1 : Int) = b.1
    · exact Ev.pos c2 (Ev.ret.val (by congr 1; exact propext ⟨fun h => .inr ⟨c2, h⟩, fun h => by omega⟩))
    · exact Ev.neg c2 (Ev.ret.val (by simp [c1, c2]))
theorem or2_ev (x y : Int) : Ev (fun k => cmp_Or_int k [x, y]) (orI x y) := by
  refine Ev.eq (fun k => cmp_Or_int_eq k _) (Ev.loop (f := fun k m => cmp_Or_int.l0 k m 0 [x, y] ((List.length [x, y] : Nat) : Int) 0) ?_)
  have w0 : IntKind.wrap .i64 ((0 : Int) + 1) = 1 := wrapI (by omega) (by omega)
  have w1 : IntKind.wrap .i64 ((1 : Int) + 1) = 2 := wrapI (by omega) (by omega)
  have r0 : rd (.int .i64) [x, y] 0 = x := rfl
  have r1 : rd (.int .i64) [x, y] 1 = y := rfl
  have hl : ((List.length [x, y] : Nat) : Int) = 2 := rfl
  unfold orI
  refine E2.eq (fun k m => cmp_Or_int.l0_eq k m 0 [x, y] _ 0) (E2.pos (by rw [hl]; omega) (E2.pos (by omega) (E2.pos (by rw [hl]; omega) ?_)))
  simp only [r0, w0]
  by_cases c0 : x = 0
  · refine E2.neg (fun h => h c0) ?_
    rw [if_neg (show ¬ x ≠ 0 by omega)]
    refine E2.eq (fun k m => cmp_Or_int.l0_eq k m 0 [x, y] _ 1) (E2.pos (by rw [hl]; omega) (E2.pos (by omega) (E2.pos (by rw [hl]; omega) ?_)))
    simp only [r1, w1]
    by_cases c1 : y = 0
    · exact E2.neg (fun h => h c1) (E2.eq (fun k m => cmp_Or_int.l0_eq k m 0 [x, y] _ 2) (E2.neg (by rw [hl]; omega) (E2.ret.val c1.symm)))
    · exact E2.pos c1 E2.ret
  · rw [if_pos c0]; exact E2.pos c0 E2.ret
def ordM (a b : DT91) : Int := orI (cmpI a.1 b.1) (cmpI a.2.1 b.2.1)
theorem orderM_ev (a b : DT91) : Ev (fun k => impl_markOrder k a b) (ordM a b) :=
  Ev.eq (fun k => impl_markOrder_eq k a b) (Ev.bind (cmp_ev _ _) (Ev.bind (cmp_ev _ _) (Ev.bind (or2_ev _ _) Ev.ret)))
theorem ordM_lt (a b : DT91) : ordM a b < 0 ↔ befM a b := by
  unfold ordM orI cmpI befM
  repeat' split
  all_goals omega
def okM (e : DT91) : Prop := (1 ≤ (e.1 : Int) ∧ (e.1 : Int) ≤ 100) ∧ (1 ≤ (e.2.1 : Int) ∧ (e.2.1 : Int) ≤ 4) ∧ (0 ≤ (e.2.2.1 : Int) ∧ (e.2.2.1 : Int) ≤ 9) ∧ (0 ≤ (e.2.2.2.1 : Int) ∧ (e.2.2.2.1 : Int) ≤ 100000) ∧ (1 ≤ (e.2.2.2.2.1 : Int) ∧ (e.2.2.2.2.1 : Int) ≤ 99)
def QM (l : List DT91) (i : Nat) : Prop := okM (rd T91 l (i : Int)) ∧ (0 < i → befM (rd T91 l ((i - 1 : Nat) : Int)) (rd T91 l (i : Int)))
def marksP (l : List DT91) : Prop := (∀ i, i < l.length → QM l i) ∧ decide (((l.length : Nat) : Int) ≤ 30) = true
theorem notM (l : List DT91) (i : Nat) (h : ¬ QM l i) (h1 : okM (rd T91 l (i : Int))) : 0 < i ∧ ¬ befM (rd T91 l ((i - 1 : Nat) : Int)) (rd T91 l (i : Int)) := by
  refine ⟨?_, fun c => h ⟨h1, fun _ => c⟩⟩
  rcases Nat.eq_zero_or_pos i with hi | hi
  · exact absurd ⟨h1, fun h' => by omega⟩ h
  · exact hi
theorem specMarks_ev (l : List DT91) (hl : l.length ≤ 1048576) : ∃ r, Ev (fun k => spec_AreMarks k l) r ∧ (r = true ↔ marksP l) := by
  obtain ⟨r, er, hr⟩ := loop_allR (R := fun i v => E2 (fun k m => spec_AreMarks.l0 k m l i) v) (n := l.length) (QM l) (decide (((l.length : Nat) : Int) ≤ 30)) (E2.eq (fun k m => spec_AreMarks.l0_eq k m l _) (E2.neg (by omega) E2.ret)) (fun i hi hq v e => by
    obtain ⟨⟨h1, h2, h3, h4, h5⟩, h6⟩ := hq
    refine E2.eq (fun k m => spec_AreMarks.l0_eq k m l _) (E2.pos (by omega) (E2.pos (by omega) (E2.pos (by omega) (E2.bind (l1In_ev _ _ _) (E2.neg (by simpa using h1) (E2.bind (l1In_ev _ _ _) (E2.neg (by simpa using h2) (E2.bind (l1In_ev _ _ _) (E2.neg (by simpa using h3) (E2.bind (l1In_ev _ _ _) (E2.neg (by simpa using h4) (E2.bind (l1In_ev _ _ _) (E2.neg (by simpa using h5) ?_)))))))))))))
    simp only [wrapS (show i < 9223372036854775807 by omega)]
    by_cases c : 0 < i
    · refine E2.pos (by omega) ?_
      simp only [wrapP c (show i < 9223372036854775807 by omega)]
      exact E2.pos (by omega) (E2.pos (by omega) (E2.bind (beforeM_ev _ _) (E2.neg (by simpa using h6 c) e)))
    · exact E2.neg (by omega) e) (fun i hi hq => by
    refine E2.eq (fun k m => spec_AreMarks.l0_eq k m l _) (E2.pos (by omega) (E2.pos (by omega) (E2.pos (by omega) (E2.bind (l1In_ev _ _ _) ?_))))
    by_cases h1 : 1 ≤ ((rd T91 l (i : Int)).1 : Int) ∧ ((rd T91 l (i : Int)).1 : Int) ≤ 100
    · refine E2.neg (by simpa using h1) (E2.bind (l1In_ev _ _ _) ?_)
      by_cases h2 : 1 ≤ ((rd T91 l (i : Int)).2.1 : Int) ∧ ((rd T91 l (i : Int)).2.1 : Int) ≤ 4
      · refine E2.neg (by simpa using h2) (E2.bind (l1In_ev _ _ _) ?_)
        by_cases h3 : 0 ≤ ((rd T91 l (i : Int)).2.2.1 : Int) ∧ ((rd T91 l (i : Int)).2.2.1 : Int) ≤ 9
        · refine E2.neg (by simpa using h3) (E2.bind (l1In_ev _ _ _) ?_)
          by_cases h4 : 0 ≤ ((rd T91 l (i : Int)).2.2.2.1 : Int) ∧ ((rd T91 l (i : Int)).2.2.2.1 : Int) ≤ 100000
          · refine E2.neg (by simpa using h4) (E2.bind (l1In_ev _ _ _) ?_)
            by_cases h5 : 1 ≤ ((rd T91 l (i : Int)).2.2.2.2.1 : Int) ∧ ((rd T91 l (i : Int)).2.2.2.2.1 : Int) ≤ 99
            · obtain ⟨c, c1⟩ := notM l i hq ⟨h1, h2, h3, h4, h5⟩
              refine E2.neg (by simpa using h5) (E2.pos (by omega) ?_)
              simp only [wrapP c (show i < 9223372036854775807 by omega)]
              exact E2.pos (by omega) (E2.pos (by omega) (E2.bind (beforeM_ev _ _) (E2.pos (by simpa using c1) E2.ret)))
            · exact E2.pos (by simpa using h5) E2.ret
          · exact E2.pos (by simpa using h4) E2.ret
        · exact E2.pos (by simpa using h3) E2.ret
      · exact E2.pos (by simpa using h2) E2.ret
    · exact E2.pos (by simpa using h1) E2.ret)
  exact ⟨r, Ev.eq (fun k => spec_AreMarks_eq k l) (Ev.loop (f := fun k m => spec_AreMarks.l0 k m l 0) er), hr⟩
theorem implMarks_ev (l : List DT91) (hl : l.length ≤ 1048576) : ∃ r, Ev (fun k => impl_AreMarks k l) r ∧ (r = true ↔ marksP l) := by
  obtain ⟨r, er, hr⟩ := loop_allR (R := fun i v => E2 (fun k m => impl_AreMarks.l0 k m l l ((List.length l : Nat) : Int) i) v) (n := l.length) (QM l) (decide (((l.length : Nat) : Int) ≤ 30)) (E2.eq (fun k m => impl_AreMarks.l0_eq k m l l _ _) (E2.neg (by omega) E2.ret)) (fun i hi hq v e => by
    obtain ⟨⟨h1, h2, h3, h4, h5⟩, h6⟩ := hq
    refine E2.eq (fun k m => impl_AreMarks.l0_eq k m l l _ _) (E2.pos (by omega) (E2.pos (by omega) (E2.pos (by omega) (E2.bind (inRange_ev _ _ _) (E2.neg (by simpa using h1) (E2.bind (inRange_ev _ _ _) (E2.neg (by simpa using h2) (E2.bind (inRange_ev _ _ _) (E2.neg (by simpa using h3) (E2.bind (inRange_ev _ _ _) (E2.neg (by simpa using h4) (E2.bind (inRange_ev _ _ _) (E2.neg (by simpa using h5) ?_)))))))))))))
    simp only [wrapS (show i < 9223372036854775807 by omega)]
    by_cases c : 0 < i
    · refine E2.pos (by omega) ?_
      simp only [wrapP c (show i < 9223372036854775807 by omega)]
      have := (ordM_lt _ _).2 (h6 c)
      exact E2.pos (by omega) (E2.pos (by omega) (E2.bind (orderM_ev _ _) (E2.neg (by omega) e)))
    · exact E2.neg (by omega) e) (fun i hi hq => by
    refine E2.eq (fun k m => impl_AreMarks.l0_eq k m l l _ _) (E2.pos (by omega) (E2.pos (by omega) (E2.pos (by omega) (E2.bind (inRange_ev _ _ _) ?_))))
    by_cases h1 : 1 ≤ ((rd T91 l (i : Int)).1 : Int) ∧ ((rd T91 l (i : Int)).1 : Int) ≤ 100
    · refine E2.neg (by simpa using h1) (E2.bind (inRange_ev _ _ _) ?_)
      by_cases h2 : 1 ≤ ((rd T91 l (i : Int)).2.1 : Int) ∧ ((rd T91 l (i : Int)).2.1 : Int) ≤ 4
      · refine E2.neg (by simpa using h2) (E2.bind (inRange_ev _ _ _) ?_)
        by_cases h3 : 0 ≤ ((rd T91 l (i : Int)).2.2.1 : Int) ∧ ((rd T91 l (i : Int)).2.2.1 : Int) ≤ 9
        · refine E2.neg (by simpa using h3) (E2.bind (inRange_ev _ _ _) ?_)
          by_cases h4 : 0 ≤ ((rd T91 l (i : Int)).2.2.2.1 : Int) ∧ ((rd T91 l (i : Int)).2.2.2.1 : Int) ≤ 100000
          · refine E2.neg (by simpa using h4) (E2.bind (inRange_ev _ _ _) ?_)
            by_cases h5 : 1 ≤ ((rd T91 l (i : Int)).2.2.2.2.1 : Int) ∧ ((rd T91 l (i : Int)).2.2.2.2.1 : Int) ≤ 99
            · obtain ⟨c, c1⟩ := notM l i hq ⟨h1, h2, h3, h4, h5⟩
              refine E2.neg (by simpa using h5) (E2.pos (by omega) ?_)
              simp only [wrapP c (show i < 9223372036854775807 by omega)]
              have := mt (ordM_lt _ _).1 c1
              exact E2.pos (by omega) (E2.pos (by omega) (E2.bind (orderM_ev _ _) (E2.pos (by omega) E2.ret)))
            · exact E2.pos (by simpa using h5) E2.ret
          · exact E2.pos (by simpa using h4) E2.ret
        · exact E2.pos (by simpa using h3) E2.ret
      · exact E2.pos (by simpa using h2) E2.ret
    · exact E2.pos (by simpa using h1) E2.ret)
  exact ⟨r, Ev.eq (fun k => impl_AreMarks_eq k l) (Ev.loop (f := fun k m => impl_AreMarks.l0 k m l l ((List.length l : Nat) : Int) 0) er), hr⟩
def QL (l : List DT23) (i : Nat) : Prop := Eq (α := Int) (rd T23 l (i : Int)).1 (i : Int) ∧ (LE.le (α := Int) 1 (rd T23 l (i : Int)).2.1 ∧ LE.le (α := Int) (rd T23 l (i : Int)).2.1 500) ∧ (0 < i → LT.lt (α := Int) (rd T23 l ((i - 1 : Nat) : Int)).2.1 (rd T23 l (i : Int)).2.1)
def lettersP (l : List DT23) : Prop := (∀ i, i < l.length → QL l i) ∧ decide (((l.length : Nat) : Int) ≤ 26) = true
theorem specLetters_ev (l : List DT23) (hl : l.length ≤ 1048576) : ∃ r, Ev (fun k => spec_AreLetters k l) r ∧ (r = true ↔ lettersP l) := by
  obtain ⟨r, er, hr⟩ := loop_allR (R := fun i v => E2 (fun k m => spec_AreLetters.l0 k m l i) v) (n := l.length) (QL l) (decide (((l.length : Nat) : Int) ≤ 26)) (E2.eq (fun k m => spec_AreLetters.l0_eq k m l _) (E2.neg (by omega) E2.ret)) (fun i hi hq v e => by
    obtain ⟨h1, h2, h3⟩ := hq
    refine E2.eq (fun k m => spec_AreLetters.l0_eq k m l _) (E2.pos (by omega) (E2.pos (by omega) (E2.pos (by omega) (E2.neg (fun c => c h1) (E2.pos (by omega) (E2.pos (by omega) (E2.bind (l1In_ev _ _ _) (E2.neg (by simpa using h2) ?_))))))))
    simp only [wrapS (show i < 9223372036854775807 by omega)]
    by_cases c : 0 < i
    · refine E2.pos (by omega) ?_
      simp only [wrapP c (show i < 9223372036854775807 by omega)]
      have := h3 c
      exact E2.pos (by omega) (E2.pos (by omega) (E2.pos (by omega) (E2.pos (by omega) (E2.neg (by omega) e))))
    · exact E2.neg (by omega) e) (fun i hi hq => by
    refine E2.eq (fun k m => spec_AreLetters.l0_eq k m l _) (E2.pos (by omega) (E2.pos (by omega) (E2.pos (by omega) ?_)))
    by_cases h1 : Eq (α := Int) (rd T23 l (i : Int)).1 (i : Int)
    · refine E2.neg (fun c => c h1) (E2.pos (by omega) (E2.pos (by omega) (E2.bind (l1In_ev _ _ _) ?_)))
      by_cases h2 : LE.le (α := Int) 1 (rd T23 l (i : Int)).2.1 ∧ LE.le (α := Int) (rd T23 l (i : Int)).2.1 500
      · have c : 0 < i := by
          rcases Nat.eq_zero_or_pos i with h | h
          · exact absurd ⟨h1, h2, fun h' => by omega⟩ hq
          · exact h
        have h3 : ¬ LT.lt (α := Int) (rd T23 l ((i - 1 : Nat) : Int)).2.1 (rd T23 l (i : Int)).2.1 := fun h => hq ⟨h1, h2, fun _ => h⟩
        refine E2.neg (by simpa using h2) (E2.pos (by omega) ?_)
        simp only [wrapP c (show i < 9223372036854775807 by omega)]
        exact E2.pos (by omega) (E2.pos (by omega) (E2.pos (by omega) (E2.pos (by omega) (E2.pos (by omega) E2.ret))))
      · exact E2.pos (by simpa using h2) E2.ret
    · exact E2.pos h1 E2.ret)
  exact ⟨r, Ev.eq (fun k => spec_AreLetters_eq k l) (Ev.loop (f := fun k m => spec_AreLetters.l0 k m l 0) er), hr⟩
theorem implLetters_ev (l : List DT23) (hl : l.length ≤ 1048576) : ∃ r, Ev (fun k => impl_AreLetters k l) r ∧ (r = true ↔ lettersP l) := by
  obtain ⟨r, er, hr⟩ := loop_allR (R := fun i v => E2 (fun k m => impl_AreLetters.l0 k m l l ((List.length l : Nat) : Int) i) v) (n := l.length) (QL l) (decide (((l.length : Nat) : Int) ≤ 26)) (E2.eq (fun k m => impl_AreLetters.l0_eq k m l l _ _) (E2.neg (by omega) E2.ret)) (fun i hi hq v e => by
    obtain ⟨h1, h2, h3⟩ := hq
    refine E2.eq (fun k m => impl_AreLetters.l0_eq k m l l _ _) (E2.pos (by omega) (E2.pos (by omega) (E2.pos (by omega) (E2.neg (fun c => c h1) (E2.bind (inRange_ev _ _ _) (E2.neg (by simpa using h2) ?_))))))
    simp only [wrapS (show i < 9223372036854775807 by omega)]
    by_cases c : 0 < i
    · refine E2.pos (by omega) ?_
      simp only [wrapP c (show i < 9223372036854775807 by omega)]
      have := h3 c
      exact E2.pos (by omega) (E2.pos (by omega) (E2.neg (by omega) e))
    · exact E2.neg (by omega) e) (fun i hi hq => by
    refine E2.eq (fun k m => impl_AreLetters.l0_eq k m l l _ _) (E2.pos (by omega) (E2.pos (by omega) (E2.pos (by omega) ?_)))
    by_cases h1 : Eq (α := Int) (rd T23 l (i : Int)).1 (i : Int)
    · refine E2.neg (fun c => c h1) (E2.bind (inRange_ev _ _ _) ?_)
      by_cases h2 : LE.le (α := Int) 1 (rd T23 l (i : Int)).2.1 ∧ LE.le (α := Int) (rd T23 l (i : Int)).2.1 500
      · have c : 0 < i := by
          rcases Nat.eq_zero_or_pos i with h | h
          · exact absurd ⟨h1, h2, fun h' => by omega⟩ hq
          · exact h
        have h3 : ¬ LT.lt (α := Int) (rd T23 l ((i - 1 : Nat) : Int)).2.1 (rd T23 l (i : Int)).2.1 := fun h => hq ⟨h1, h2, fun _ => h⟩
        refine E2.neg (by simpa using h2) (E2.pos (by omega) ?_)
        simp only [wrapP c (show i < 9223372036854775807 by omega)]
        exact E2.pos (by omega) (E2.pos (by omega) (E2.pos (by omega) E2.ret))
      · exact E2.pos (by simpa using h2) E2.ret
    · exact E2.pos h1 E2.ret)
  exact ⟨r, Ev.eq (fun k => impl_AreLetters_eq k l) (Ev.loop (f := fun k m => impl_AreLetters.l0 k m l l ((List.length l : Nat) : Int) 0) er), hr⟩
theorem has_ev (l : List Int) (x : Int) (hl : l.length ≤ 1048576) : Ev (fun k => spec_l27Has k l x) (decide (x ∈ l)) := by
  refine dec_of ?_
  obtain ⟨r, er, hr⟩ := loop_anyR (R := fun i v => E2 (fun k m => spec_l27Has.l0 k m l x i) v) (n := l.length) (fun i => Eq (α := Int) (rd (.int .i64) l (i : Int)) x) (E2.eq (fun k m => spec_l27Has.l0_eq k m l x _) (E2.neg (by omega) E2.ret)) (fun i hi hq v e => by
    refine E2.eq (fun k m => spec_l27Has.l0_eq k m l x _) (E2.pos (by omega) (E2.pos (by omega) (E2.pos (by omega) (E2.neg hq ?_))))
    simp only [wrapS (show i < 9223372036854775807 by omega)]; exact e) (fun i hi hq => E2.eq (fun k m => spec_l27Has.l0_eq k m l x _) (E2.pos (by omega) (E2.pos (by omega) (E2.pos (by omega) (E2.pos hq E2.ret)))))
  refine ⟨r, Ev.eq (fun k => spec_l27Has_eq k l x) (Ev.loop (f := fun k m => spec_l27Has.l0 k m l x 0) er), hr.trans ⟨fun ⟨i, hi, h⟩ => ?_, fun h => ?_⟩⟩
  · rw [← h, rd_at hi]; exact List.getElem_mem hi
  · obtain ⟨i, hi, h⟩ := List.mem_iff_getElem.1 h
    exact ⟨i, hi, by rw [rd_at hi]; exact h⟩
theorem index_ev (l : List Int) (x : Int) (hl : l.length ≤ 1048576) : Ev (fun k => slices_Index___int_int k l x) (firstI (fun i => decide (Eq (α := Int) x (rd (.int .i64) l (i : Int)))) l.length) := by
  have er := loop_firstR (R := fun i v => E2 (fun k m => slices_Index___int_int.l0 k m l x ((List.length l : Nat) : Int) i) v) (n := l.length) (fun i => decide (Eq (α := Int) x (rd (.int .i64) l (i : Int)))) (E2.eq (fun k m => slices_Index___int_int.l0_eq k m l x _ _) (E2.neg (by omega) E2.ret)) (fun i hi hq v e => by
    refine E2.eq (fun k m => slices_Index___int_int.l0_eq k m l x _ _) (E2.pos (by omega) (E2.pos (by omega) (E2.pos (by omega) (E2.neg (by simpa using hq) ?_))))
    simp only [wrapS (show i < 9223372036854775807 by omega)]; exact e) (fun i hi hq => E2.eq (fun k m => slices_Index___int_int.l0_eq k m l x _ _) (E2.pos (by omega) (E2.pos (by omega) (E2.pos (by omega) (E2.pos (by simpa using hq) E2.ret)))))
  exact Ev.eq (fun k => slices_Index___int_int_eq k l x) (Ev.loop (f := fun k m => slices_Index___int_int.l0 k m l x ((List.length l : Nat) : Int) 0) er)
theorem contains_ev (l : List Int) (x : Int) (hl : l.length ≤ 1048576) : Ev (fun k => slices_Contains___int_int k l x) (decide (x ∈ l)) := by
  refine Ev.eq (fun k => slices_Contains___int_int_eq k l x) (Ev.bind (index_ev l x hl) (Ev.ret.val ?_))
  rw [Bool.eq_iff_iff, decide_eq_true_eq, decide_eq_true_eq, firstI_nonneg]
  constructor
  · rintro ⟨i, hi, h⟩
    have h : x = rd (.int .i64) l (i : Int) := by simpa using h
    rw [h, rd_at hi]; exact List.getElem_mem hi
  · intro h
    obtain ⟨i, hi, h⟩ := List.mem_iff_getElem.1 h
    exact ⟨i, hi, by rw [decide_eq_true_eq, rd_at hi]; exact h.symm⟩
def ofVoice (v : Int) (e : DT80) : Bool := decide ((e.2.2.2.1 : Int) = v)
theorem specVoice_ev (l : List DT80) (v : Int) (hl : l.length ≤ 1048576) : Ev (fun k => spec_VoiceOf k l v) (l.filter (ofVoice v)) := by
  have er := loop_filterR (t := T80) (l := l) (R := fun i s r => E2 (fun k m => spec_VoiceOf.l0 k m l v i s) r) (ofVoice v) (fun s => E2.eq (fun k m => spec_VoiceOf.l0_eq k m l v _ s) (E2.neg (by omega) E2.ret)) (fun i s hi hs hq r e => by
    refine E2.eq (fun k m => spec_VoiceOf.l0_eq k m l v _ s) (E2.pos (by omega) (E2.pos (by omega) (E2.pos (by omega) (E2.pos (of_decide_eq_true hq) (E2.pos (by omega) (E2.pos (by omega) (E2.pos (by simp only [List.length_cons, List.length_nil]; omega) ?_)))))))
    simp only [wrapS (show i < 9223372036854775807 by omega)]; exact e) (fun i s hi hs hq r e => by
    refine E2.eq (fun k m => spec_VoiceOf.l0_eq k m l v _ s) (E2.pos (by omega) (E2.pos (by omega) (E2.pos (by omega) (E2.neg (of_decide_eq_false hq) ?_))))
    simp only [wrapS (show i < 9223372036854775807 by omega)]; exact e)
  exact Ev.eq (fun k => spec_VoiceOf_eq k l v) (Ev.loop (f := fun k m => spec_VoiceOf.l0 k m l v 0 []) er)
theorem del_ev (e : DT80) (v : Int) : Ev (fun k => impl_VoiceOf_1 k e v) (! ofVoice v e) := by
  refine Ev.eq (fun k => impl_VoiceOf_1_eq k e v) (Ev.ret.val ?_)
  unfold ofVoice
  simp
theorem delete_ev (l : List DT80) (v : Int) (hl : l.length ≤ 1048576) : Ev (fun k => slices_DeleteFunc_impl_Event_108 k l v) (l.filter (ofVoice v)) := by
  have ei : Ev (fun k => slices_IndexFunc_impl_Event_108 k l v) (firstI (fun i => ! ofVoice v (rd T80 l (i : Int))) l.length) := by
    have er := loop_firstR (R := fun i r => E2 (fun k m => slices_IndexFunc_impl_Event_108.l0 k m l v ((List.length l : Nat) : Int) i) r) (n := l.length) (fun i => ! ofVoice v (rd T80 l (i : Int))) (E2.eq (fun k m => slices_IndexFunc_impl_Event_108.l0_eq k m l v _ _) (E2.neg (by omega) E2.ret)) (fun i hi hq r e => by
      refine E2.eq (fun k m => slices_IndexFunc_impl_Event_108.l0_eq k m l v _ _) (E2.pos (by omega) (E2.pos (by omega) (E2.pos (by omega) (E2.bind (del_ev _ _) (E2.neg (by rw [hq]; simp) ?_)))))
      simp only [wrapS (show i < 9223372036854775807 by omega)]; exact e) (fun i hi hq => E2.eq (fun k m => slices_IndexFunc_impl_Event_108.l0_eq k m l v _ _) (E2.pos (by omega) (E2.pos (by omega) (E2.pos (by omega) (E2.bind (del_ev _ _) (E2.pos hq E2.ret))))))
    exact Ev.eq (fun k => slices_IndexFunc_impl_Event_108_eq k l v) (Ev.loop (f := fun k m => slices_IndexFunc_impl_Event_108.l0 k m l v ((List.length l : Nat) : Int) 0) er)
  refine Ev.eq (fun k => slices_DeleteFunc_impl_Event_108_eq k l v) (Ev.bind ei ?_)
  rcases firstI_spec (fun i => ! ofVoice v (rd T80 l (i : Int))) l.length with ⟨h, hall⟩ | ⟨r, h, hr, h1, h0⟩
  · refine Ev.pos h (Ev.ret.val ?_)
    symm
    rw [List.filter_eq_self]
    intro x hx
    obtain ⟨i, hi, rfl⟩ := List.mem_iff_getElem.1 hx
    have := hall i hi
    rw [rd_at hi] at this
    simpa using this
  · rw [h]
    refine Ev.neg (by omega) ?_
    rw [wrapS (by omega)]
    refine Ev.loop (f := fun k m => slices_DeleteFunc_impl_Event_108.l0 k m v (r : Int) ((r + 1 : Nat) : Int) l) ?_
    refine loop_deleteR (t := T80) (l := l) (R := fun i j s w => E2 (fun k m => slices_DeleteFunc_impl_Event_108.l0 k m v i j s) w) (ofVoice v) (fun i s hi hs => ?_) (fun i j s hij hj hs hq w e => ?_) (fun i j s hij hj hs hq w e => ?_) r hr (fun j hj => by simpa using h0 j hj) (by simpa using h1)
    · refine E2.eq (fun k m => slices_DeleteFunc_impl_Event_108.l0_eq k m v _ _ s) (E2.neg (by omega) (E2.pos (by omega) (E2.pos (by omega) (E2.pos (by omega) (E2.pos ?_ (E2.ret.val ?_))))))
      · simp only [List.length_append, List.length_take, List.length_replicate, List.length_drop, Int.toNat_natCast]
        omega
      · simp only [Int.toNat_natCast, show Int.toNat 0 = 0 from rfl, Nat.sub_zero, List.drop_zero]
        rw [List.append_assoc, List.take_append_of_le_length (by simp; omega), List.take_take, Nat.min_self]
    · refine E2.eq (fun k m => slices_DeleteFunc_impl_Event_108.l0_eq k m v _ _ s) (E2.pos (by omega) (E2.pos (by omega) (E2.pos (by omega) (E2.bind (del_ev _ _) (E2.pos (by rw [hq]; simp) (E2.pos (by omega) (E2.pos (by omega) ?_)))))))
      simp only [wrapS (show i < 9223372036854775807 by omega), wrapS (show j < 9223372036854775807 by omega), Int.toNat_natCast]; exact e
    · refine E2.eq (fun k m => slices_DeleteFunc_impl_Event_108.l0_eq k m v _ _ s) (E2.pos (by omega) (E2.pos (by omega) (E2.pos (by omega) (E2.bind (del_ev _ _) (E2.neg (by rw [hq]; simp) ?_)))))
      simp only [wrapS (show j < 9223372036854775807 by omega)]; exact e
theorem cloneE_ev (l : List DT80) (hl : l.length ≤ 1048576) : Ev (fun k => impl_clone_impl_Event k l) l :=
  Ev.eq (fun k => impl_clone_impl_Event_eq k l) (Ev.pos (by simp only [List.length_nil]; omega) (Ev.ret.val (by simp)))
theorem implVoice_ev (l : List DT80) (v : Int) (hl : l.length ≤ 1048576) : Ev (fun k => impl_VoiceOf k l v) (l.filter (ofVoice v)) :=
  Ev.eq (fun k => impl_VoiceOf_eq k l v) (Ev.bind (cloneE_ev l hl) (Ev.bind (delete_ev l v hl) Ev.ret))
def QF (lo hi : Int) (l : List DT80) (i : Nat) : Prop := LE.le (α := Int) lo (rd T80 l (i : Int)).2.2.1 ∧ LE.le (α := Int) (rd T80 l (i : Int)).2.2.1 hi
def fitsP (l : List DT80) (lo hi : Int) : Prop := (∀ i, i < l.length → QF lo hi l i) ∧ decide (scoreP l) = true
theorem specFits_ev (l : List DT80) (lo hi : Int) (hl : l.length ≤ 1048576) : ∃ r, Ev (fun k => spec_FitsRange k l lo hi) r ∧ (r = true ↔ fitsP l lo hi) := by
  obtain ⟨r, er, hr⟩ := loop_allR (R := fun i v => E2 (fun k m => spec_FitsRange.l0 k m l lo hi i) v) (n := l.length) (QF lo hi l) (decide (scoreP l)) (E2.eq (fun k m => spec_FitsRange.l0_eq k m l lo hi _) (E2.neg (by omega) (E2.bind (specScore_ev l hl) (E2.ret.val (by simp))))) (fun i hi' hq v e => by
    refine E2.eq (fun k m => spec_FitsRange.l0_eq k m l lo hi _) (E2.pos (by omega) (E2.pos (by omega) (E2.pos (by omega) (E2.bind (l1In_ev _ _ _) (E2.neg (by simpa [QF] using hq) ?_)))))
    simp only [wrapS (show i < 9223372036854775807 by omega)]; exact e) (fun i hi' hq => E2.eq (fun k m => spec_FitsRange.l0_eq k m l lo hi _) (E2.pos (by omega) (E2.pos (by omega) (E2.pos (by omega) (E2.bind (l1In_ev _ _ _) (E2.pos (by simp only [decide_eq_true_eq]; exact hq) E2.ret))))))
  exact ⟨r, Ev.eq (fun k => spec_FitsRange_eq k l lo hi) (Ev.loop (f := fun k m => spec_FitsRange.l0 k m l lo hi 0) er), hr⟩
theorem implFits_ev (l : List DT80) (lo hi : Int) (hl : l.length ≤ 1048576) : ∃ r, Ev (fun k => impl_FitsRange k l lo hi) r ∧ (r = true ↔ fitsP l lo hi) := by
  obtain ⟨r, er, hr⟩ := loop_allR (R := fun i v => E2 (fun k m => impl_FitsRange.l0 k m l lo hi l ((List.length l : Nat) : Int) i) v) (n := l.length) (QF lo hi l) (decide (scoreP l)) (E2.eq (fun k m => impl_FitsRange.l0_eq k m l lo hi l _ _) (E2.neg (by omega) (E2.bind (implScore_ev l hl) (E2.ret.val (by simp))))) (fun i hi' hq v e => by
    refine E2.eq (fun k m => impl_FitsRange.l0_eq k m l lo hi l _ _) (E2.pos (by omega) (E2.pos (by omega) (E2.pos (by omega) (E2.bind (inRange_ev _ _ _) (E2.neg (by simpa [QF] using hq) ?_)))))
    simp only [wrapS (show i < 9223372036854775807 by omega)]; exact e) (fun i hi' hq => E2.eq (fun k m => impl_FitsRange.l0_eq k m l lo hi l _ _) (E2.pos (by omega) (E2.pos (by omega) (E2.pos (by omega) (E2.bind (inRange_ev _ _ _) (E2.pos (by simp only [decide_eq_true_eq]; exact hq) E2.ret))))))
  exact ⟨r, Ev.eq (fun k => impl_FitsRange_eq k l lo hi) (Ev.loop (f := fun k m => impl_FitsRange.l0 k m l lo hi l ((List.length l : Nat) : Int) 0) er), hr⟩
def canP (p : DT67) (l : List DT80) (v : Int) : Prop := (v : Int) ∈ p.2.2.2.1 ∧ scoreP l ∧ fitsP (l.filter (ofVoice v)) p.2.1 p.2.2.1
theorem filter_le (l : List DT80) (v : Int) (hl : l.length ≤ 1048576) : (l.filter (ofVoice v)).length ≤ 1048576 := Nat.le_trans (List.length_filter_le _ _) hl
theorem specCan_ev (p : DT67) (l : List DT80) (v : Int) (hp : p.2.2.2.1.length ≤ 1048576) (hl : l.length ≤ 1048576) : ∃ r, Ev (fun k => spec_CanPlay k p l v) r ∧ (r = true ↔ canP p l v) := by
  unfold canP
  by_cases c1 : (v : Int) ∈ p.2.2.2.1
  · by_cases c2 : scoreP l
    · obtain ⟨r, er, hr⟩ := specFits_ev (l.filter (ofVoice v)) p.2.1 p.2.2.1 (filter_le l v hl)
      exact ⟨r, Ev.eq (fun k => spec_CanPlay_eq k p l v) (Ev.bind (has_ev _ _ hp) (Ev.pos (by simpa using c1) (Ev.bind (specScore_ev l hl) (Ev.pos (by simpa using c2) (Ev.bind (specVoice_ev l v hl) (Ev.bind er (Ev.ret.val (by simp)))))))), by rw [hr]; exact ⟨fun h => ⟨c1, c2, h⟩, fun h => h.2.2⟩⟩
    · exact ⟨false, Ev.eq (fun k => spec_CanPlay_eq k p l v) (Ev.bind (has_ev _ _ hp) (Ev.pos (by simpa using c1) (Ev.bind (specScore_ev l hl) (Ev.neg (by simpa using c2) Ev.ret)))), by simp only [Bool.false_eq_true, false_iff]; exact fun h => c2 h.2.1⟩
  · exact ⟨false, Ev.eq (fun k => spec_CanPlay_eq k p l v) (Ev.bind (has_ev _ _ hp) (Ev.neg (by simpa using c1) Ev.ret)), by simp only [Bool.false_eq_true, false_iff]; exact fun h => c1 h.1⟩
theorem implCan_ev (p : DT67) (l : List DT80) (v : Int) (hp : p.2.2.2.1.length ≤ 1048576) (hl : l.length ≤ 1048576) : ∃ r, Ev (fun k => impl_CanPlay k p l v) r ∧ (r = true ↔ canP p l v) := by
  unfold canP
  by_cases c1 : (v : Int) ∈ p.2.2.2.1
  · by_cases c2 : scoreP l
    · obtain ⟨r, er, hr⟩ := implFits_ev (l.filter (ofVoice v)) p.2.1 p.2.2.1 (filter_le l v hl)
      exact ⟨r, Ev.eq (fun k => impl_CanPlay_eq k p l v) (Ev.bind (contains_ev _ _ hp) (Ev.pos (by simpa using c1) (Ev.bind (implScore_ev l hl) (Ev.pos (by simpa using c2) (Ev.bind (implVoice_ev l v hl) (Ev.bind er (Ev.ret.val (by simp)))))))), by rw [hr]; exact ⟨fun h => ⟨c1, c2, h⟩, fun h => h.2.2⟩⟩
    · exact ⟨false, Ev.eq (fun k => impl_CanPlay_eq k p l v) (Ev.bind (contains_ev _ _ hp) (Ev.pos (by simpa using c1) (Ev.bind (implScore_ev l hl) (Ev.neg (by simpa using c2) Ev.ret)))), by simp only [Bool.false_eq_true, false_iff]; exact fun h => c2 h.2.1⟩
  · exact ⟨false, Ev.eq (fun k => impl_CanPlay_eq k p l v) (Ev.bind (contains_ev _ _ hp) (Ev.neg (by simpa using c1) Ev.ret)), by simp only [Bool.false_eq_true, false_iff]; exact fun h => c1 h.1⟩
def QA (lo hi : Int) (l : List Int) (i : Nat) : Prop := (LE.le (α := Int) lo (rd (.int .i64) l (i : Int)) ∧ LE.le (α := Int) (rd (.int .i64) l (i : Int)) hi) ∧ (0 < i → LT.lt (α := Int) (rd (.int .i64) l ((i - 1 : Nat) : Int)) (rd (.int .i64) l (i : Int)))
def ascP (l : List Int) (lo hi : Int) : Prop := ∀ i, i < l.length → QA lo hi l i
theorem notA {lo hi : Int} {l : List Int} {i : Nat} (h : ¬ QA lo hi l i) (h1 : LE.le (α := Int) lo (rd (.int .i64) l (i : Int)) ∧ LE.le (α := Int) (rd (.int .i64) l (i : Int)) hi) : 0 < i ∧ ¬ LT.lt (α := Int) (rd (.int .i64) l ((i - 1 : Nat) : Int)) (rd (.int .i64) l (i : Int)) := by
  refine ⟨?_, fun c => h ⟨h1, fun _ => c⟩⟩
  rcases Nat.eq_zero_or_pos i with hi | hi
  · exact absurd ⟨h1, fun h' => by omega⟩ h
  · exact hi
theorem asc_ev (l : List Int) (lo hi : Int) (hl : l.length ≤ 1048576) : ∃ r, Ev (fun k => impl_ascending k l lo hi) r ∧ (r = true ↔ ascP l lo hi) := by
  obtain ⟨r, er, hr⟩ := loop_allR (R := fun i v => E2 (fun k m => impl_ascending.l0 k m l lo hi l ((List.length l : Nat) : Int) i) v) (n := l.length) (QA lo hi l) true (E2.eq (fun k m => impl_ascending.l0_eq k m l lo hi l _ _) (E2.neg (by omega) E2.ret)) (fun i hi' hq v e => by
    obtain ⟨h1, h2⟩ := hq
    refine E2.eq (fun k m => impl_ascending.l0_eq k m l lo hi l _ _) (E2.pos (by omega) (E2.pos (by omega) (E2.pos (by omega) (E2.bind (inRange_ev _ _ _) (E2.neg (by simpa using h1) ?_)))))
    simp only [wrapS (show i < 9223372036854775807 by omega)]
    by_cases c : 0 < i
    · refine E2.pos (by omega) ?_
      simp only [wrapP c (show i < 9223372036854775807 by omega)]
      have := h2 c
      exact E2.pos (by omega) (E2.pos (by omega) (E2.neg (by omega) e))
    · exact E2.neg (by omega) e) (fun i hi' hq => by
    refine E2.eq (fun k m => impl_ascending.l0_eq k m l lo hi l _ _) (E2.pos (by omega) (E2.pos (by omega) (E2.pos (by omega) (E2.bind (inRange_ev _ _ _) ?_))))
    by_cases h1 : LE.le (α := Int) lo (rd (.int .i64) l (i : Int)) ∧ LE.le (α := Int) (rd (.int .i64) l (i : Int)) hi
    · obtain ⟨c, c1⟩ := notA hq h1
      refine E2.neg (by simpa using h1) (E2.pos (by omega) ?_)
      simp only [wrapP c (show i < 9223372036854775807 by omega)]
      exact E2.pos (by omega) (E2.pos (by omega) (E2.pos (by omega) E2.ret))
    · exact E2.pos (by simp only [decide_eq_true_eq]; exact h1) E2.ret)
  exact ⟨r, Ev.eq (fun k => impl_ascending_eq k l lo hi) (Ev.loop (f := fun k m => impl_ascending.l0 k m l lo hi l ((List.length l : Nat) : Int) 0) er), hr.trans ⟨fun h => h.1, fun h => ⟨h, rfl⟩⟩⟩
/-- A player alone, as the program tests it ahead of the Ids. -/
def okP (p : DT67) : Prop := (21 ≤ (p.2.1 : Int) ∧ (p.2.1 : Int) ≤ p.2.2.1) ∧ (p.2.2.1 : Int) ≤ 108 ∧ ascP p.2.2.2.1 1 4
def QP (l : List DT67) (i : Nat) : Prop := okP (rd T67 l (i : Int)) ∧ (1 ≤ ((rd T67 l (i : Int)).1 : Int) ∧ ((rd T67 l (i : Int)).1 : Int) ≤ 99) ∧ (0 < i → LT.lt (α := Int) (rd T67 l ((i - 1 : Nat) : Int)).1 (rd T67 l (i : Int)).1)
def playersP (l : List DT67) : Prop := (∀ i, i < l.length → QP l i) ∧ decide (((l.length : Nat) : Int) ≤ 8) = true
/-- No row is longer than the law allows. -/
def SmP (l : List DT67) : Prop := l.length ≤ 1048576 ∧ ∀ i : Nat, i < l.length → (rd T67 l (i : Int)).2.2.2.1.length ≤ 1048576
theorem specPl_in (l : List DT67) (i : Nat) (a b c : Int) (vs : List Int) (hv : vs.length ≤ 1048576) (hi : i < l.length) (hl : l.length ≤ 1048576) (x : Bool) (e : E2 (fun k n => spec_ArePlayers.l0 k n l ((i + 1 : Nat) : Int)) x) :
    ∃ r, E2 (fun k n => spec_ArePlayers.l1 k k n l (i : Int) 0 a b c vs) r ∧ (r = true ↔ ascP vs 1 4 ∧ x = true) := by
  obtain ⟨r, er, hr⟩ := loop_allR (R := fun j v => E3 (fun k m n => spec_ArePlayers.l1 k m n l (i : Int) j a b c vs) v) (n := vs.length) (QA 1 4 vs) x (by
    refine E3.eq (fun k m n => spec_ArePlayers.l1_eq k m n l (i : Int) _ a b c vs) (E3.neg (by omega) ?_)
    simp only [wrapS (show i < 9223372036854775807 by omega)]
    exact E3.out e) (fun j hj hq v e => by
    obtain ⟨h1, h2⟩ := hq
    refine E3.eq (fun k m n => spec_ArePlayers.l1_eq k m n l (i : Int) _ a b c vs) (E3.pos (by omega) (E3.pos (by omega) (E3.pos (by omega) (E3.bind (l1In_ev _ _ _) (E3.neg (by simpa using h1) ?_)))))
    simp only [wrapS (show j < 9223372036854775807 by omega)]
    by_cases c : 0 < j
    · refine E3.pos (by omega) ?_
      simp only [wrapP c (show j < 9223372036854775807 by omega)]
      have := h2 c
      exact E3.pos (by omega) (E3.pos (by omega) (E3.pos (by omega) (E3.pos (by omega) (E3.neg (by omega) e))))
    · exact E3.neg (by omega) e) (fun j hj hq => by
    refine E3.eq (fun k m n => spec_ArePlayers.l1_eq k m n l (i : Int) _ a b c vs) (E3.pos (by omega) (E3.pos (by omega) (E3.pos (by omega) (E3.bind (l1In_ev _ _ _) ?_))))
    by_cases h1 : LE.le (α := Int) 1 (rd (.int .i64) vs (j : Int)) ∧ LE.le (α := Int) (rd (.int .i64) vs (j : Int)) 4
    · obtain ⟨c, c1⟩ := notA hq h1
      refine E3.neg (by simpa using h1) (E3.pos (by omega) ?_)
      simp only [wrapP c (show j < 9223372036854775807 by omega)]
      exact E3.pos (by omega) (E3.pos (by omega) (E3.pos (by omega) (E3.pos (by omega) (E3.pos (by omega) E3.ret))))
    · exact E3.pos (by simp only [decide_eq_true_eq]; exact h1) E3.ret)
  exact ⟨r, E3.loop (f := fun k m n => spec_ArePlayers.l1 k m n l (i : Int) 0 a b c vs) er, hr⟩
theorem specPlayers_ev (l : List DT67) (hs : SmP l) : ∃ r, Ev (fun k => spec_ArePlayers k l) r ∧ (r = true ↔ playersP l) := by
  have hl := hs.1
  have key : ∀ d i, i + d = l.length → ∃ r, E2 (fun k m => spec_ArePlayers.l0 k m l (i : Int)) r ∧ (r = true ↔ (∀ j, i ≤ j → j < l.length → QP l j) ∧ decide (((l.length : Nat) : Int) ≤ 8) = true) := by
    intro d
    induction d with
    | zero =>
      intro i hi
      exact ⟨_, E2.eq (fun k m => spec_ArePlayers.l0_eq k m l _) (E2.neg (by omega) E2.ret), ⟨fun h => ⟨fun j _ _ => by omega, h⟩, fun h => h.2⟩⟩
    | succ d ih =>
      intro i hi
      have hlt : i < l.length := by omega
      obtain ⟨x, ex, hx⟩ := ih (i + 1) (by omega)
      have stop : (∃ e : E2 (fun k m => spec_ArePlayers.l0 k m l (i : Int)) false, True) → ¬ QP l i → ∃ r, E2 (fun k m => spec_ArePlayers.l0 k m l (i : Int)) r ∧ (r = true ↔ (∀ j, i ≤ j → j < l.length → QP l j) ∧ decide (((l.length : Nat) : Int) ≤ 8) = true) := fun ⟨e, _⟩ h =>
        ⟨false, e, by simp only [Bool.false_eq_true, false_iff]; exact fun c => h (c.1 i (Nat.le_refl _) hlt)⟩
      have st : ∀ {f : Nat → Nat → Option Bool} {v : Bool}, (∀ k m, spec_ArePlayers.l0 k (m + 1) l (i : Int) = f k m) → E2 f v → E2 (fun k m => spec_ArePlayers.l0 k m l (i : Int)) v := fun h e => E2.eq h e
      by_cases h1 : LE.le (α := Int) 1 (rd T67 l (i : Int)).1 ∧ LE.le (α := Int) (rd T67 l (i : Int)).1 99
      · by_cases h2 : LE.le (α := Int) 21 (rd T67 l (i : Int)).2.1
        · by_cases h3 : LE.le (α := Int) (rd T67 l (i : Int)).2.1 (rd T67 l (i : Int)).2.2.1
          · by_cases h4 : LE.le (α := Int) (rd T67 l (i : Int)).2.2.1 108
            · obtain ⟨r, er, hr⟩ := specPl_in l i (rd T67 l (i : Int)).1 (rd T67 l (i : Int)).2.1 (rd T67 l (i : Int)).2.2.1 (rd T67 l (i : Int)).2.2.2.1 (hs.2 i hlt) hlt hl x ex
              by_cases c : 0 < i
              · by_cases h5 : LT.lt (α := Int) (rd T67 l ((i - 1 : Nat) : Int)).1 (rd T67 l (i : Int)).1
                · refine ⟨r, E2.eq (fun k m => spec_ArePlayers.l0_eq k m l _) (E2.pos (by omega) (E2.pos (by omega) (E2.pos (by omega) (E2.bind (l1In_ev _ _ _) (E2.neg (by simpa using h1) (E2.neg (by omega) (E2.neg (by omega) (E2.neg (by omega) (E2.pos (by omega) ?_))))))))), hr.trans ⟨fun ⟨h6, h7⟩ => ⟨fun j hj1 hj2 => ?_, (hx.1 h7).2⟩, fun h => ⟨(h.1 i (Nat.le_refl _) hlt).1.2.2, hx.2 ⟨fun j hj1 hj2 => h.1 j (by omega) hj2, h.2⟩⟩⟩⟩
                  · simp only [wrapP c (show i < 9223372036854775807 by omega)]
                    exact E2.pos (by omega) (E2.pos (by omega) (E2.neg (by omega) er))
                  · by_cases hji : j = i
                    · subst hji; exact ⟨⟨⟨h2, h3⟩, h4, h6⟩, h1, fun _ => h5⟩
                    · exact (hx.1 h7).1 j (by omega) hj2
                · refine stop ⟨E2.eq (fun k m => spec_ArePlayers.l0_eq k m l _) (E2.pos (by omega) (E2.pos (by omega) (E2.pos (by omega) (E2.bind (l1In_ev _ _ _) (E2.neg (by simpa using h1) (E2.neg (by omega) (E2.neg (by omega) (E2.neg (by omega) (E2.pos (by omega) ?_))))))))), trivial⟩ (fun h => h5 (h.2.2 c))
                  simp only [wrapP c (show i < 9223372036854775807 by omega)]
                  exact E2.pos (by omega) (E2.pos (by omega) (E2.pos (by omega) E2.ret))
              · refine ⟨r, E2.eq (fun k m => spec_ArePlayers.l0_eq k m l _) (E2.pos (by omega) (E2.pos (by omega) (E2.pos (by omega) (E2.bind (l1In_ev _ _ _) (E2.neg (by simpa using h1) (E2.neg (by omega) (E2.neg (by omega) (E2.neg (by omega) (E2.neg (by omega) er))))))))), hr.trans ⟨fun ⟨h6, h7⟩ => ⟨fun j hj1 hj2 => ?_, (hx.1 h7).2⟩, fun h => ⟨(h.1 i (Nat.le_refl _) hlt).1.2.2, hx.2 ⟨fun j hj1 hj2 => h.1 j (by omega) hj2, h.2⟩⟩⟩⟩
                by_cases hji : j = i
                · subst hji; exact ⟨⟨⟨h2, h3⟩, h4, h6⟩, h1, fun h => absurd h c⟩
                · exact (hx.1 h7).1 j (by omega) hj2
            · exact stop ⟨E2.eq (fun k m => spec_ArePlayers.l0_eq k m l _) (E2.pos (by omega) (E2.pos (by omega) (E2.pos (by omega) (E2.bind (l1In_ev _ _ _) (E2.neg (by simpa using h1) (E2.neg (by omega) (E2.neg (by omega) (E2.pos (by omega) E2.ret)))))))), trivial⟩ (fun h => h4 h.1.2.1)
          · exact stop ⟨E2.eq (fun k m => spec_ArePlayers.l0_eq k m l _) (E2.pos (by omega) (E2.pos (by omega) (E2.pos (by omega) (E2.bind (l1In_ev _ _ _) (E2.neg (by simpa using h1) (E2.neg (by omega) (E2.pos (by omega) E2.ret))))))), trivial⟩ (fun h => h3 h.1.1.2)
        · exact stop ⟨E2.eq (fun k m => spec_ArePlayers.l0_eq k m l _) (E2.pos (by omega) (E2.pos (by omega) (E2.pos (by omega) (E2.bind (l1In_ev _ _ _) (E2.neg (by simpa using h1) (E2.pos (by omega) E2.ret)))))), trivial⟩ (fun h => h2 h.1.1.1)
      · exact stop ⟨E2.eq (fun k m => spec_ArePlayers.l0_eq k m l _) (E2.pos (by omega) (E2.pos (by omega) (E2.pos (by omega) (E2.bind (l1In_ev _ _ _) (E2.pos (by simp only [decide_eq_true_eq]; exact h1) E2.ret))))), trivial⟩ (fun h => h1 h.2.1)
  obtain ⟨r, er, hr⟩ := key l.length 0 (by omega)
  exact ⟨r, Ev.eq (fun k => spec_ArePlayers_eq k l) (Ev.loop (f := fun k m => spec_ArePlayers.l0 k m l 0) er), hr.trans ⟨fun h => ⟨fun i hi => h.1 i (Nat.zero_le _) hi, h.2⟩, fun h => ⟨fun i _ hi => h.1 i hi, h.2⟩⟩⟩
def idsOfP (l : List DT67) : List Int := l.map fun p => p.1
theorem idsOfP_rd {l : List DT67} {i : Nat} (h : i < l.length) : Eq (α := Int) (rd (.int .i64) (idsOfP l) (i : Int)) (rd T67 l (i : Int)).1 := by
  unfold idsOfP
  rw [rd_at (by simpa using h), rd_at h]
  simp
theorem implPlayers_ev (l : List DT67) (hs : SmP l) : ∃ r, Ev (fun k => impl_ArePlayers k l) r ∧ (r = true ↔ playersP l) := by
  have hl := hs.1
  obtain ⟨a, ea, ha⟩ := asc_ev (idsOfP l) 1 99 (by unfold idsOfP; simpa using hl)
  obtain ⟨r, er, hr⟩ := loop_allR (R := fun i v => E2 (fun k m => impl_ArePlayers.l0 k m l l ((List.length l : Nat) : Int) i (idsOfP (l.take i.toNat))) v) (n := l.length) (fun i => okP (rd T67 l (i : Int))) (decide (((l.length : Nat) : Int) ≤ 8 ∧ a = true)) (by
    refine E2.eq (fun k m => impl_ArePlayers.l0_eq k m l l _ _ _) (E2.neg (by omega) ?_)
    rw [Int.toNat_natCast, List.take_length]
    by_cases c : ((l.length : Nat) : Int) ≤ 8
    · exact E2.pos c (E2.bind ea (E2.ret.val (by simp [c])))
    · exact E2.neg c (E2.ret.val (by simp [c]))) (fun i hi hq v e => by
    obtain ⟨h1, h2, h3⟩ := hq
    obtain ⟨b, eb, hb⟩ := asc_ev (rd T67 l (i : Int)).2.2.2.1 1 4 (hs.2 i hi)
    have hlen : (idsOfP (l.take ((i : Int)).toNat)).length = i := by unfold idsOfP; simp; omega
    refine E2.eq (fun k m => impl_ArePlayers.l0_eq k m l l _ _ _) (E2.pos (by omega) (E2.pos (by omega) (E2.pos (by omega) (E2.bind (inRange_ev _ _ _) (E2.neg (by simpa using h1) (E2.neg (Int.not_lt.2 h2) (E2.bind eb (E2.neg (by simpa using hb.2 h3) (E2.pos (by rw [hlen]; simp only [List.length_cons, List.length_nil]; omega) ?_)))))))))
    simp only [wrapS (show i < 9223372036854775807 by omega)]
    have he : idsOfP (l.take ((i : Int)).toNat) ++ [(rd T67 l (i : Int)).1] = idsOfP (l.take (((i + 1 : Nat) : Int)).toNat) := by
      unfold idsOfP
      rw [Int.toNat_natCast, Int.toNat_natCast, List.take_succ_eq_append_getElem hi, rd_at hi, List.map_append]
      rfl
    rw [he]
    exact e) (fun i hi hq => by
    obtain ⟨b, eb, hb⟩ := asc_ev (rd T67 l (i : Int)).2.2.2.1 1 4 (hs.2 i hi)
    refine E2.eq (fun k m => impl_ArePlayers.l0_eq k m l l _ _ _) (E2.pos (by omega) (E2.pos (by omega) (E2.pos (by omega) (E2.bind (inRange_ev _ _ _) ?_))))
    by_cases h1 : LE.le (α := Int) 21 (rd T67 l (i : Int)).2.1 ∧ LE.le (α := Int) (rd T67 l (i : Int)).2.1 (rd T67 l (i : Int)).2.2.1
    · refine E2.neg (by simpa using h1) ?_
      by_cases h2 : LE.le (α := Int) (rd T67 l (i : Int)).2.2.1 108
      · exact E2.neg (by omega) (E2.bind eb (E2.pos (fun c => hq ⟨h1, h2, hb.1 c⟩) E2.ret))
      · exact E2.pos (by omega) E2.ret
    · exact E2.pos (by simp only [decide_eq_true_eq]; exact h1) E2.ret)
  have er' : E2 (fun k m => impl_ArePlayers.l0 k m l l ((List.length l : Nat) : Int) 0 []) r := er
  refine ⟨r, Ev.eq (fun k => impl_ArePlayers_eq k l) (Ev.loop (f := fun k m => impl_ArePlayers.l0 k m l l ((List.length l : Nat) : Int) 0 []) er'), hr.trans ?_⟩
  unfold playersP
  rw [decide_eq_true_eq, decide_eq_true_eq, ha]
  unfold ascP
  have hlen : (idsOfP l).length = l.length := by unfold idsOfP; simp
  rw [hlen]
  constructor
  · rintro ⟨h1, h2, h3⟩
    refine ⟨fun i hi => ?_, h2⟩
    obtain ⟨k1, k2⟩ := h3 i hi
    rw [idsOfP_rd hi] at k1
    refine ⟨h1 i hi, k1, fun c => ?_⟩
    have := k2 c
    rw [idsOfP_rd hi, idsOfP_rd (show i - 1 < l.length by omega)] at this
    exact this
  · rintro ⟨h1, h2⟩
    refine ⟨fun i hi => (h1 i hi).1, h2, fun i hi => ?_⟩
    obtain ⟨k1, k2, k3⟩ := h1 i hi
    refine ⟨by rw [idsOfP_rd hi]; exact k2, fun c => ?_⟩
    rw [idsOfP_rd hi, idsOfP_rd (show i - 1 < l.length by omega)]
    exact k3 c
def sitsP (l : List DT67) (sc : List DT80) (x v : Int) (j : Nat) : Prop := Eq (α := Int) (rd T67 l (j : Int)).1 x ∧ canP (rd T67 l (j : Int)) sc v
def QI (l : List DT67) (sc : List DT80) (seats : List Int) (i : Nat) : Prop := (∃ j, j < l.length ∧ sitsP l sc (rd (.int .i64) seats (i : Int)) ((i + 1 : Nat) : Int) j) ∧ ¬ (rd (.int .i64) seats (i : Int)) ∈ seats.take i
def seatingP (l : List DT67) (sc : List DT80) (seats : List Int) : Prop := (∀ i, i < seats.length → QI l sc seats i) ∧ playersP l ∧ scoreP sc ∧ ((seats.length : Nat) : Int) ≤ 4
theorem takeNat (i : Nat) (s : List Int) : List.take (Int.toNat (i : Int) - Int.toNat 0) (List.drop (Int.toNat 0) s) = s.take i := by
  simp
theorem specSeat_in (l : List DT67) (sc : List DT80) (seats : List Int) (hs : SmP l) (h1 : sc.length ≤ 1048576) (h2 : seats.length ≤ 1048576) (i : Nat) (hi : i < seats.length) (x : Bool) (e : E2 (fun k n => spec_IsSeating.l0 k n l sc seats ((i + 1 : Nat) : Int)) x) :
    ∃ r, E2 (fun k n => spec_IsSeating.l1 k k n l sc seats (i : Int) false 0) r ∧ (r = true ↔ QI l sc seats i ∧ x = true) := by
  have hl := hs.1
  have key : ∀ d (j : Nat) (g : Bool), j + d = l.length → ∃ r, E3 (fun k m n => spec_IsSeating.l1 k m n l sc seats (i : Int) g (j : Int)) r ∧
      (r = true ↔ ((g = true ∨ ∃ q, j ≤ q ∧ q < l.length ∧ sitsP l sc (rd (.int .i64) seats (i : Int)) ((i + 1 : Nat) : Int) q) ∧ ¬ (rd (.int .i64) seats (i : Int)) ∈ seats.take i) ∧ x = true) := by
    intro d
    induction d with
    | zero =>
      intro j g hj
      have no : ¬ ∃ q, j ≤ q ∧ q < l.length ∧ sitsP l sc (rd (.int .i64) seats (i : Int)) ((i + 1 : Nat) : Int) q := by rintro ⟨q, h3, h4, _⟩; omega
      cases g with
      | false =>
        exact ⟨false, E3.eq (fun k m n => spec_IsSeating.l1_eq k m n l sc seats (i : Int) false _) (E3.neg (by omega) (E3.pos (by simp) E3.ret)), by simp only [Bool.false_eq_true, false_iff, false_or]; exact fun h => no h.1.1⟩
      | true =>
        by_cases hm : (rd (.int .i64) seats (i : Int)) ∈ seats.take i
        · refine ⟨false, E3.eq (fun k m n => spec_IsSeating.l1_eq k m n l sc seats (i : Int) true _) (E3.neg (by omega) (E3.neg (by simp) (E3.pos (by omega) (E3.pos (by omega) (E3.pos (by omega) (E3.pos (by omega) (E3.bind (has_ev _ _ ?_) (E3.pos ?_ E3.ret)))))))), by simp [hm]⟩
          · simp; omega
          · rw [takeNat]; simpa using hm
        · refine ⟨x, E3.eq (fun k m n => spec_IsSeating.l1_eq k m n l sc seats (i : Int) true _) (E3.neg (by omega) (E3.neg (by simp) (E3.pos (by omega) (E3.pos (by omega) (E3.pos (by omega) (E3.pos (by omega) (E3.bind (has_ev _ _ ?_) (E3.neg ?_ ?_)))))))), by simp [hm]⟩
          · simp; omega
          · rw [takeNat]; simpa using hm
          · simp only [wrapS (show i < 9223372036854775807 by omega)]
            exact E3.out e
    | succ d ih =>
      intro j g hj
      have hlt : j < l.length := by omega
      cases g with
      | true =>
        obtain ⟨r, er, hr⟩ := ih (j + 1) true (by omega)
        refine ⟨r, E3.eq (fun k m n => spec_IsSeating.l1_eq k m n l sc seats (i : Int) true _) (E3.pos (by omega) (E3.pos rfl ?_)), hr.trans (by simp)⟩
        simp only [wrapS (show j < 9223372036854775807 by omega)]
        exact er
      | false =>
        have wi : IntKind.wrap .i64 ((i : Int) + 1) = ((i + 1 : Nat) : Int) := wrapS (by omega)
        by_cases hid : Eq (α := Int) (rd T67 l (j : Int)).1 (rd (.int .i64) seats (i : Int))
        · obtain ⟨c, ec, hc⟩ := specCan_ev (rd T67 l (j : Int)) sc ((i + 1 : Nat) : Int) (hs.2 j hlt) h1
          obtain ⟨r, er, hr⟩ := ih (j + 1) c (by omega)
          refine ⟨r, E3.eq (fun k m n => spec_IsSeating.l1_eq k m n l sc seats (i : Int) false _) (E3.pos (by omega) (E3.neg (by simp) (E3.pos (by omega) (E3.pos (by omega) (E3.pos (by omega) (E3.pos (by omega) (E3.pos hid (E3.pos (by omega) (E3.pos (by omega) ?_))))))))), hr.trans ?_⟩
          · simp only [wrapS (show j < 9223372036854775807 by omega), wi]
            refine E3.bind ec ?_
            simpa using er
          · refine and_congr (and_congr ⟨fun h => .inr ?_, fun h => ?_⟩ Iff.rfl) Iff.rfl
            · rcases h with h | ⟨q, h3, h4, h5⟩
              · exact ⟨j, Nat.le_refl _, hlt, hid, hc.1 h⟩
              · exact ⟨q, by omega, h4, h5⟩
            · rcases h with h | ⟨q, h3, h4, h5⟩
              · cases h
              · by_cases hq : q = j
                · subst hq; exact .inl (hc.2 h5.2)
                · exact .inr ⟨q, by omega, h4, h5⟩
        · obtain ⟨r, er, hr⟩ := ih (j + 1) false (by omega)
          refine ⟨r, E3.eq (fun k m n => spec_IsSeating.l1_eq k m n l sc seats (i : Int) false _) (E3.pos (by omega) (E3.neg (by simp) (E3.pos (by omega) (E3.pos (by omega) (E3.pos (by omega) (E3.pos (by omega) (E3.neg hid ?_))))))), hr.trans ?_⟩
          · simp only [wrapS (show j < 9223372036854775807 by omega)]
            exact er
          · refine and_congr (and_congr (or_congr Iff.rfl ⟨fun ⟨q, h3, h4, h5⟩ => ⟨q, by omega, h4, h5⟩, fun ⟨q, h3, h4, h5⟩ => ?_⟩) Iff.rfl) Iff.rfl
            by_cases hq : q = j
            · subst hq; exact absurd h5.1 hid
            · exact ⟨q, by omega, h4, h5⟩
  obtain ⟨r, er, hr⟩ := key l.length 0 false (by omega)
  refine ⟨r, E3.loop (f := fun k m n => spec_IsSeating.l1 k m n l sc seats (i : Int) false 0) er, hr.trans ?_⟩
  unfold QI
  simp
theorem specSeating_ev (l : List DT67) (sc : List DT80) (seats : List Int) (hs : SmP l) (h1 : sc.length ≤ 1048576) (h2 : seats.length ≤ 1048576) : ∃ r, Ev (fun k => spec_IsSeating k l sc seats) r ∧ (r = true ↔ seatingP l sc seats) := by
  have key : ∀ d i, i + d = seats.length → ∃ r, E2 (fun k m => spec_IsSeating.l0 k m l sc seats (i : Int)) r ∧ (r = true ↔ (∀ j, i ≤ j → j < seats.length → QI l sc seats j) ∧ playersP l ∧ scoreP sc ∧ ((seats.length : Nat) : Int) ≤ 4) := by
    intro d
    induction d with
    | zero =>
      intro i hi
      have tr : ∀ {p : Prop}, (p ↔ (∀ j, i ≤ j → j < seats.length → QI l sc seats j) ∧ p) := ⟨fun h => ⟨fun j _ _ => by omega, h⟩, fun h => h.2⟩
      obtain ⟨a, ea, ha⟩ := specPlayers_ev l hs
      by_cases ca : a = true
      · by_cases cs : scoreP sc
        · exact ⟨_, E2.eq (fun k m => spec_IsSeating.l0_eq k m l sc seats _) (E2.neg (by omega) (E2.bind ea (E2.pos ca (E2.bind (specScore_ev sc h1) (E2.pos (by simpa using cs) E2.ret))))), Iff.trans (by rw [decide_eq_true_eq]; exact ⟨fun h => ⟨ha.1 ca, cs, h⟩, fun h => h.2.2⟩) tr⟩
        · exact ⟨_, E2.eq (fun k m => spec_IsSeating.l0_eq k m l sc seats _) (E2.neg (by omega) (E2.bind ea (E2.pos ca (E2.bind (specScore_ev sc h1) (E2.neg (by simpa using cs) E2.ret))))), by simp only [Bool.false_eq_true, false_iff]; exact fun h => cs h.2.2.1⟩
      · exact ⟨_, E2.eq (fun k m => spec_IsSeating.l0_eq k m l sc seats _) (E2.neg (by omega) (E2.bind ea (E2.neg ca E2.ret))), by simp only [Bool.false_eq_true, false_iff]; exact fun h => ca (ha.2 h.2.1)⟩
    | succ d ih =>
      intro i hi
      have hlt : i < seats.length := by omega
      obtain ⟨x, ex, hx⟩ := ih (i + 1) (by omega)
      obtain ⟨r, er, hr⟩ := specSeat_in l sc seats hs h1 h2 i hlt x ex
      refine ⟨r, E2.eq (fun k m => spec_IsSeating.l0_eq k m l sc seats _) (E2.pos (by omega) er), hr.trans ⟨fun ⟨h3, h4⟩ => ⟨fun j hj1 hj2 => ?_, (hx.1 h4).2⟩, fun ⟨h3, h4⟩ => ⟨h3 i (Nat.le_refl _) hlt, hx.2 ⟨fun j hj1 hj2 => h3 j (by omega) hj2, h4⟩⟩⟩⟩
      by_cases hj : j = i
      · subst hj; exact h3
      · exact (hx.1 h4).1 j (by omega) hj2
  obtain ⟨r, er, hr⟩ := key seats.length 0 (by omega)
  exact ⟨r, Ev.eq (fun k => spec_IsSeating_eq k l sc seats) (Ev.loop (f := fun k m => spec_IsSeating.l0 k m l sc seats 0) er), hr.trans ⟨fun h => ⟨fun i hi => h.1 i (Nat.zero_le _) hi, h.2⟩, fun h => ⟨fun i _ hi => h.1 i hi, h.2⟩⟩⟩
theorem sits_ev (l : List DT67) (sc : List DT80) (x : Int) (i : Nat) (hs : SmP l) (h1 : sc.length ≤ 1048576) (hi : i < 1048576) : ∃ r, Ev (fun k => slices_ContainsFunc_impl_Player_84 k l x sc (i : Int)) r ∧ (r = true ↔ ∃ j, j < l.length ∧ sitsP l sc x ((i + 1 : Nat) : Int) j) := by
  have hl := hs.1
  have wi : IntKind.wrap .i64 ((i : Int) + 1) = ((i + 1 : Nat) : Int) := wrapS (by omega)
  have one : ∀ j, j < l.length → ∃ r, Ev (fun k => impl_IsSeating_1 k (rd T67 l (j : Int)) x sc (i : Int)) r ∧ (r = true ↔ sitsP l sc x ((i + 1 : Nat) : Int) j) := by
    intro j hj
    by_cases hid : Eq (α := Int) (rd T67 l (j : Int)).1 x
    · obtain ⟨c, ec, hc⟩ := implCan_ev (rd T67 l (j : Int)) sc ((i + 1 : Nat) : Int) (hs.2 j hj) h1
      refine ⟨c, Ev.eq (fun k => impl_IsSeating_1_eq k _ x sc (i : Int)) (Ev.pos hid ?_), hc.trans ⟨fun h => ⟨hid, h⟩, fun h => h.2⟩⟩
      simp only [wi]
      exact Ev.bind ec (Ev.ret.val (by simp))
    · exact ⟨false, Ev.eq (fun k => impl_IsSeating_1_eq k _ x sc (i : Int)) (Ev.neg hid Ev.ret), by simp only [Bool.false_eq_true, false_iff]; exact fun h => hid h.1⟩
  have hdec : ∀ j, Decidable (sitsP l sc x ((i + 1 : Nat) : Int) j) := fun j => Classical.propDecidable _
  have er := loop_firstR (R := fun j v => E2 (fun k m => slices_IndexFunc_impl_Player_84.l0 k m l x sc (i : Int) ((List.length l : Nat) : Int) j) v) (n := l.length) (fun j => @decide _ (hdec j)) (E2.eq (fun k m => slices_IndexFunc_impl_Player_84.l0_eq k m l x sc _ _ _) (E2.neg (by omega) E2.ret)) (fun j hj hq v e => by
    obtain ⟨c, ec, hc⟩ := one j hj
    refine E2.eq (fun k m => slices_IndexFunc_impl_Player_84.l0_eq k m l x sc _ _ _) (E2.pos (by omega) (E2.pos (by omega) (E2.pos (by omega) (E2.bind ec (E2.neg (fun h => absurd (hc.1 h) (@of_decide_eq_false _ (hdec j) hq)) ?_)))))
    simp only [wrapS (show j < 9223372036854775807 by omega)]; exact e) (fun j hj hq => by
    obtain ⟨c, ec, hc⟩ := one j hj
    exact E2.eq (fun k m => slices_IndexFunc_impl_Player_84.l0_eq k m l x sc _ _ _) (E2.pos (by omega) (E2.pos (by omega) (E2.pos (by omega) (E2.bind ec (E2.pos (hc.2 (by simpa using hq)) E2.ret))))))
  refine ⟨_, Ev.eq (fun k => slices_ContainsFunc_impl_Player_84_eq k l x sc _) (Ev.bind (Ev.eq (fun k => slices_IndexFunc_impl_Player_84_eq k l x sc _) (Ev.loop (f := fun k m => slices_IndexFunc_impl_Player_84.l0 k m l x sc (i : Int) ((List.length l : Nat) : Int) 0) er)) Ev.ret), ?_⟩
  rw [decide_eq_true_eq, firstI_nonneg]
  simp only [decide_eq_true_eq]
theorem implSeating_ev (l : List DT67) (sc : List DT80) (seats : List Int) (hs : SmP l) (h1 : sc.length ≤ 1048576) (h2 : seats.length ≤ 1048576) : ∃ r, Ev (fun k => impl_IsSeating k l sc seats) r ∧ (r = true ↔ seatingP l sc seats) := by
  obtain ⟨a, ea, ha⟩ := implPlayers_ev l hs
  by_cases ca : a = true
  · by_cases cs : scoreP sc
    · by_cases c4 : ((seats.length : Nat) : Int) ≤ 4
      · obtain ⟨r, er, hr⟩ := loop_allR (R := fun i v => E2 (fun k m => impl_IsSeating.l0 k m l seats seats ((List.length seats : Nat) : Int) i sc) v) (n := seats.length) (QI l sc seats) true (E2.eq (fun k m => impl_IsSeating.l0_eq k m l seats seats _ _ sc) (E2.neg (by omega) E2.ret)) (fun i hi hq v e => by
          obtain ⟨c, ec, hc⟩ := sits_ev l sc (rd (.int .i64) seats (i : Int)) i hs h1 (by omega)
          refine E2.eq (fun k m => impl_IsSeating.l0_eq k m l seats seats _ _ sc) (E2.pos (by omega) (E2.pos (by omega) (E2.pos (by omega) (E2.pos (by omega) (E2.pos (by omega) (E2.bind (contains_ev _ _ ?_) (E2.neg ?_ (E2.bind ec (E2.neg (by simpa using hc.2 hq.1) ?_)))))))))
          · simp; omega
          · rw [takeNat]; simpa using hq.2
          · simp only [wrapS (show i < 9223372036854775807 by omega)]; exact e) (fun i hi hq => by
          obtain ⟨c, ec, hc⟩ := sits_ev l sc (rd (.int .i64) seats (i : Int)) i hs h1 (by omega)
          refine E2.eq (fun k m => impl_IsSeating.l0_eq k m l seats seats _ _ sc) (E2.pos (by omega) (E2.pos (by omega) (E2.pos (by omega) (E2.pos (by omega) (E2.pos (by omega) (E2.bind (contains_ev _ _ ?_) ?_))))))
          · simp; omega
          rw [takeNat]
          by_cases hm : (rd (.int .i64) seats (i : Int)) ∈ seats.take i
          · exact E2.pos (by simpa using hm) E2.ret
          · exact E2.neg (by simpa using hm) (E2.bind ec (E2.pos (fun h => hq ⟨hc.1 h, hm⟩) E2.ret)))
        exact ⟨r, Ev.eq (fun k => impl_IsSeating_eq k l sc seats) (Ev.bind ea (Ev.neg (by simpa using ca) (Ev.bind (implScore_ev sc h1) (Ev.neg (by simpa using cs) (Ev.neg (by omega) (Ev.loop (f := fun k m => impl_IsSeating.l0 k m l seats seats ((List.length seats : Nat) : Int) 0 sc) er)))))), hr.trans ⟨fun h => ⟨h.1, ha.1 ca, cs, c4⟩, fun h => ⟨h.1, rfl⟩⟩⟩
      · exact ⟨false, Ev.eq (fun k => impl_IsSeating_eq k l sc seats) (Ev.bind ea (Ev.neg (by simpa using ca) (Ev.bind (implScore_ev sc h1) (Ev.neg (by simpa using cs) (Ev.pos (by omega) Ev.ret))))), by simp only [Bool.false_eq_true, false_iff]; exact fun h => c4 h.2.2.2⟩
    · exact ⟨false, Ev.eq (fun k => impl_IsSeating_eq k l sc seats) (Ev.bind ea (Ev.neg (by simpa using ca) (Ev.bind (implScore_ev sc h1) (Ev.pos (by simpa using cs) Ev.ret)))), by simp only [Bool.false_eq_true, false_iff]; exact fun h => cs h.2.2.1⟩
  · exact ⟨false, Ev.eq (fun k => impl_IsSeating_eq k l sc seats) (Ev.bind ea (Ev.pos ca Ev.ret)), by simp only [Bool.false_eq_true, false_iff]; exact fun h => ca (ha.2 h.2.1)⟩
structure Sm (o : DT30) : Prop where
  score : o.1.length ≤ 1048576
  tempo : o.2.2.1.length ≤ 1048576
  players : SmP o.2.2.2.1
  seats : o.2.2.2.2.1.length ≤ 1048576
  marks : o.2.2.2.2.2.1.length ≤ 1048576
  letters : o.2.2.2.2.2.2.1.length ≤ 1048576
theorem sm_of {o : DT30} (h : Bk T30 o) : Sm o := by
  refine ⟨h.1.1, h.2.2.1.1, ⟨h.2.2.2.1.1, fun i hi => ?_⟩, h.2.2.2.2.1.1, h.2.2.2.2.2.1.1, h.2.2.2.2.2.2.1.1⟩
  rw [rd_at hi]
  exact (h.2.2.2.1.2 _ (List.getElem_mem hi)).2.2.2.1.1
theorem isOrchestra_both (o : DT30) (h : Sm o) : ∃ r, Ev (fun k => spec_IsOrchestra k o) r ∧ Ev (fun k => impl_IsOrchestra k o) r := by
  obtain ⟨m, em1, em2⟩ := specMeter_ev o.2.1
  obtain ⟨a, ea, ha⟩ := specMarks_ev o.2.2.2.2.2.1 h.marks
  obtain ⟨a', ea', ha'⟩ := implMarks_ev o.2.2.2.2.2.1 h.marks
  obtain rfl : a' = a := by rw [Bool.eq_iff_iff]; exact ha'.trans ha.symm
  obtain ⟨b, eb, hb⟩ := specLetters_ev o.2.2.2.2.2.2.1 h.letters
  obtain ⟨b', eb', hb'⟩ := implLetters_ev o.2.2.2.2.2.2.1 h.letters
  obtain rfl : b' = b := by rw [Bool.eq_iff_iff]; exact hb'.trans hb.symm
  obtain ⟨c, ec, hc⟩ := specSeating_ev o.2.2.2.1 o.1 o.2.2.2.2.1 h.players h.score h.seats
  obtain ⟨c', ec', hc'⟩ := implSeating_ev o.2.2.2.1 o.1 o.2.2.2.2.1 h.players h.score h.seats
  obtain rfl : c' = c := by rw [Bool.eq_iff_iff]; exact hc'.trans hc.symm
  by_cases d1 : scoreP o.1
  · by_cases d2 : m = true
    · by_cases d3 : tempoP o.2.2.1
      · by_cases d4 : a' = true
        · by_cases d5 : b' = true
          · by_cases d6 : c' = true
            · by_cases d7 : 1 ≤ (o.2.2.2.2.2.2.2.1 : Int) ∧ (o.2.2.2.2.2.2.2.1 : Int) ≤ 9999
              · exact ⟨_, Ev.eq (fun k => spec_IsOrchestra_eq k o) (Ev.bind (specScore_ev _ h.score) (Ev.pos (by simpa using d1) (Ev.bind em1 (Ev.pos d2 (Ev.bind (specTempo_ev _ h.tempo) (Ev.pos (by simpa using d3) (Ev.bind ea (Ev.pos d4 (Ev.bind eb (Ev.pos d5 (Ev.bind ec (Ev.pos d6 (Ev.bind (l1In_ev _ _ _) (Ev.pos (by simpa using d7) (Ev.bind (l1In_ev _ _ _) Ev.ret))))))))))))))),
                  Ev.eq (fun k => impl_IsOrchestra_eq k o) (Ev.bind (implScore_ev _ h.score) (Ev.pos (by simpa using d1) (Ev.bind em2 (Ev.pos d2 (Ev.bind (implTempo_ev _ h.tempo) (Ev.pos (by simpa using d3) (Ev.bind ea' (Ev.pos d4 (Ev.bind eb' (Ev.pos d5 (Ev.bind ec' (Ev.pos d6 (Ev.bind (inRange_ev _ _ _) (Ev.pos (by simpa using d7) (Ev.bind (inRange_ev _ _ _) Ev.ret)))))))))))))))⟩
              · exact ⟨false, Ev.eq (fun k => spec_IsOrchestra_eq k o) (Ev.bind (specScore_ev _ h.score) (Ev.pos (by simpa using d1) (Ev.bind em1 (Ev.pos d2 (Ev.bind (specTempo_ev _ h.tempo) (Ev.pos (by simpa using d3) (Ev.bind ea (Ev.pos d4 (Ev.bind eb (Ev.pos d5 (Ev.bind ec (Ev.pos d6 (Ev.bind (l1In_ev _ _ _) (Ev.neg (by simpa using d7) Ev.ret)))))))))))))),
                  Ev.eq (fun k => impl_IsOrchestra_eq k o) (Ev.bind (implScore_ev _ h.score) (Ev.pos (by simpa using d1) (Ev.bind em2 (Ev.pos d2 (Ev.bind (implTempo_ev _ h.tempo) (Ev.pos (by simpa using d3) (Ev.bind ea' (Ev.pos d4 (Ev.bind eb' (Ev.pos d5 (Ev.bind ec' (Ev.pos d6 (Ev.bind (inRange_ev _ _ _) (Ev.neg (by simpa using d7) Ev.ret))))))))))))))⟩
            · exact ⟨false, Ev.eq (fun k => spec_IsOrchestra_eq k o) (Ev.bind (specScore_ev _ h.score) (Ev.pos (by simpa using d1) (Ev.bind em1 (Ev.pos d2 (Ev.bind (specTempo_ev _ h.tempo) (Ev.pos (by simpa using d3) (Ev.bind ea (Ev.pos d4 (Ev.bind eb (Ev.pos d5 (Ev.bind ec (Ev.neg d6 Ev.ret)))))))))))),
                Ev.eq (fun k => impl_IsOrchestra_eq k o) (Ev.bind (implScore_ev _ h.score) (Ev.pos (by simpa using d1) (Ev.bind em2 (Ev.pos d2 (Ev.bind (implTempo_ev _ h.tempo) (Ev.pos (by simpa using d3) (Ev.bind ea' (Ev.pos d4 (Ev.bind eb' (Ev.pos d5 (Ev.bind ec' (Ev.neg d6 Ev.ret))))))))))))⟩
          · exact ⟨false, Ev.eq (fun k => spec_IsOrchestra_eq k o) (Ev.bind (specScore_ev _ h.score) (Ev.pos (by simpa using d1) (Ev.bind em1 (Ev.pos d2 (Ev.bind (specTempo_ev _ h.tempo) (Ev.pos (by simpa using d3) (Ev.bind ea (Ev.pos d4 (Ev.bind eb (Ev.neg d5 Ev.ret)))))))))),
              Ev.eq (fun k => impl_IsOrchestra_eq k o) (Ev.bind (implScore_ev _ h.score) (Ev.pos (by simpa using d1) (Ev.bind em2 (Ev.pos d2 (Ev.bind (implTempo_ev _ h.tempo) (Ev.pos (by simpa using d3) (Ev.bind ea' (Ev.pos d4 (Ev.bind eb' (Ev.neg d5 Ev.ret))))))))))⟩
        · exact ⟨false, Ev.eq (fun k => spec_IsOrchestra_eq k o) (Ev.bind (specScore_ev _ h.score) (Ev.pos (by simpa using d1) (Ev.bind em1 (Ev.pos d2 (Ev.bind (specTempo_ev _ h.tempo) (Ev.pos (by simpa using d3) (Ev.bind ea (Ev.neg d4 Ev.ret)))))))),
            Ev.eq (fun k => impl_IsOrchestra_eq k o) (Ev.bind (implScore_ev _ h.score) (Ev.pos (by simpa using d1) (Ev.bind em2 (Ev.pos d2 (Ev.bind (implTempo_ev _ h.tempo) (Ev.pos (by simpa using d3) (Ev.bind ea' (Ev.neg d4 Ev.ret))))))))⟩
      · exact ⟨false, Ev.eq (fun k => spec_IsOrchestra_eq k o) (Ev.bind (specScore_ev _ h.score) (Ev.pos (by simpa using d1) (Ev.bind em1 (Ev.pos d2 (Ev.bind (specTempo_ev _ h.tempo) (Ev.neg (by simpa using d3) Ev.ret)))))),
          Ev.eq (fun k => impl_IsOrchestra_eq k o) (Ev.bind (implScore_ev _ h.score) (Ev.pos (by simpa using d1) (Ev.bind em2 (Ev.pos d2 (Ev.bind (implTempo_ev _ h.tempo) (Ev.neg (by simpa using d3) Ev.ret))))))⟩
    · exact ⟨false, Ev.eq (fun k => spec_IsOrchestra_eq k o) (Ev.bind (specScore_ev _ h.score) (Ev.pos (by simpa using d1) (Ev.bind em1 (Ev.neg d2 Ev.ret)))),
        Ev.eq (fun k => impl_IsOrchestra_eq k o) (Ev.bind (implScore_ev _ h.score) (Ev.pos (by simpa using d1) (Ev.bind em2 (Ev.neg d2 Ev.ret))))⟩
  · exact ⟨false, Ev.eq (fun k => spec_IsOrchestra_eq k o) (Ev.bind (specScore_ev _ h.score) (Ev.neg (by simpa using d1) Ev.ret)),
      Ev.eq (fun k => impl_IsOrchestra_eq k o) (Ev.bind (implScore_ev _ h.score) (Ev.neg (by simpa using d1) Ev.ret))⟩
theorem mul4 (a b c d : Int) : a * b * (c * d) = a * c * (b * d) := by rw [Int.mul_assoc, Int.mul_assoc, Int.mul_left_comm b c d]
theorem isR_gcd {n d : Int} (h : isR n d = true) : gcdI (absI n) d = 1 := by
  unfold isR at h
  exact (of_decide_eq_true h).2.2
theorem gcd_cross (x y p q : Nat) (h1 : Nat.gcd x p = 1) (h2 : Nat.gcd y q = 1) (hp : 0 < p) (hq : 0 < q) : Nat.gcd (x * y) (p * q) = Nat.gcd x q * Nat.gcd y p := by
  have hg : 0 < Nat.gcd x q := Nat.gcd_pos_of_pos_right _ hq
  have hh : 0 < Nat.gcd y p := Nat.gcd_pos_of_pos_right _ hp
  have c1 := Nat.coprime_div_gcd_div_gcd hg
  have c2 := Nat.coprime_div_gcd_div_gcd hh
  have ex : Nat.gcd x q * (x / Nat.gcd x q) = x := Nat.mul_div_cancel' (Nat.gcd_dvd_left x q)
  have eq : Nat.gcd x q * (q / Nat.gcd x q) = q := Nat.mul_div_cancel' (Nat.gcd_dvd_right x q)
  have ey : Nat.gcd y p * (y / Nat.gcd y p) = y := Nat.mul_div_cancel' (Nat.gcd_dvd_left y p)
  have ep : Nat.gcd y p * (p / Nat.gcd y p) = p := Nat.mul_div_cancel' (Nat.gcd_dvd_right y p)
  generalize Nat.gcd x q = g at *
  generalize Nat.gcd y p = h at *
  generalize x / g = x' at *
  generalize q / g = q' at *
  generalize y / h = y' at *
  generalize p / h = p' at *
  have c3 : Nat.Coprime x' p' := by
    have : Nat.Coprime x p := h1
    exact (this.coprime_dvd_left ⟨g, by rw [← ex, Nat.mul_comm]⟩).coprime_dvd_right ⟨h, by rw [← ep, Nat.mul_comm]⟩
  have c4 : Nat.Coprime y' q' := by
    have : Nat.Coprime y q := h2
    exact (this.coprime_dvd_left ⟨h, by rw [← ey, Nat.mul_comm]⟩).coprime_dvd_right ⟨g, by rw [← eq, Nat.mul_comm]⟩
  have c5 : Nat.gcd (x' * y') (p' * q') = 1 := Nat.Coprime.mul_right (Nat.Coprime.mul_left c3 c2) (Nat.Coprime.mul_left c1 c4)
  have e1 : x * y = (g * h) * (x' * y') := by rw [← ex, ← ey, Nat.mul_mul_mul_comm]
  have e2 : p * q = (g * h) * (p' * q') := by rw [← ep, ← eq, Nat.mul_mul_mul_comm, Nat.mul_comm h g]
  rw [e1, e2, Nat.gcd_mul_left, c5, Nat.mul_one]
theorem gcdI_cross (a b p q : Int) (hp : 1 ≤ p) (hq : 1 ≤ q) (h1 : gcdI (absI a) p = 1) (h2 : gcdI (absI b) q = 1) : gcdI (absI (a * b)) (p * q) = gcdI (absI a) q * gcdI (absI b) p := by
  obtain ⟨p, rfl⟩ := Int.eq_ofNat_of_zero_le (show 0 ≤ p by omega)
  obtain ⟨q, rfl⟩ := Int.eq_ofNat_of_zero_le (show 0 ≤ q by omega)
  unfold gcdI absI at *
  rw [← Int.natCast_mul, ← Int.natCast_mul]
  simp only [Int.toNat_natCast] at *
  rw [Int.natAbs_mul, gcd_cross a.natAbs b.natAbs p q (by omega) (by omega) (by omega) (by omega)]
def mulR (a b : DT23) : Res := if isR a.1 a.2.1 = true ∧ isR b.1 b.2.1 = true then mk (a.1 * b.1) (a.2.1 * b.2.1) else noR
theorem implMul_ev (a b : DT23) : Ev (fun k => impl_MulRatio k a b) (mulR a b) := by
  unfold mulR
  by_cases ca : isR a.1 a.2.1 = true
  · by_cases cb : isR b.1 b.2.1 = true
    · obtain ⟨a1, a2⟩ := isR_spec ca
      obtain ⟨b1, b2⟩ := isR_spec cb
      have m3 := mul_bd (x := a.2.1) (y := b.2.1) (A := 1000000) (B := 1000000) ⟨by omega, a1.2⟩ ⟨by omega, b1.2⟩
      have m4 : 1 ≤ a.2.1 * b.2.1 := Int.mul_pos (by omega) (by omega)
      have m1 : -1000000000000000000 ≤ a.1 * b.1 ∧ a.1 * b.1 ≤ 1000000000000000000 := by
        rcases Int.le_total 0 b.1 with h | h
        · have := mul_bd (x := a.1) (y := b.1) (A := 1000000000) (B := 1000000000) ⟨a2.1, a2.2⟩ ⟨h, b2.2⟩
          omega
        · have := mul_bd (x := a.1) (y := -b.1) (A := 1000000000) (B := 1000000000) ⟨a2.1, a2.2⟩ ⟨by omega, by omega⟩
          rw [Int.mul_neg] at this
          omega
      refine Ev.eq (fun k => impl_MulRatio_eq k a b) (Ev.bind (implIsRatio_ev a) (Ev.neg (by simp [ca]) (Ev.bind (implIsRatio_ev b) (Ev.neg (by simp [cb]) ?_))))
      rw [wrapI (n := a.1 * b.1) (by omega) (by omega), wrapI (n := a.2.1 * b.2.1) (by omega) (by omega)]
      refine Ev.bind (lowest_ev _ _ (by omega) (by omega) m4 (by omega)) (Ev.ret.val ?_)
      rw [if_pos ⟨ca, cb⟩]
      obtain ⟨r, o, _⟩ := mk (a.1 * b.1) (a.2.1 * b.2.1)
      simp
    · exact Ev.eq (fun k => impl_MulRatio_eq k a b) (Ev.bind (implIsRatio_ev a) (Ev.neg (by simp [ca]) (Ev.bind (implIsRatio_ev b) (Ev.pos (by simpa using cb) (Ev.ret.val (by rw [if_neg (fun h => cb h.2)]; rfl))))))
  · exact Ev.eq (fun k => impl_MulRatio_eq k a b) (Ev.bind (implIsRatio_ev a) (Ev.pos (by simpa using ca) (Ev.ret.val (by rw [if_neg (fun h => ca h.1)]; rfl))))
theorem specMul_ev (a b : DT23) : Ev (fun k => spec_MulRatio k a b) (mulR a b) := by
  unfold mulR
  by_cases ca : isR a.1 a.2.1 = true
  · by_cases cb : isR b.1 b.2.1 = true
    · obtain ⟨a1, a2⟩ := isR_spec ca
      obtain ⟨b1, b2⟩ := isR_spec cb
      have ga := isR_gcd ca
      have gb := isR_gcd cb
      have aa : 0 ≤ absI a.1 := by unfold absI; omega
      have ab : 0 ≤ absI b.1 := by unfold absI; omega
      have hg := gcdI_pos (absI a.1) b.2.1 (by omega)
      have hh := gcdI_pos (absI b.1) a.2.1 (by omega)
      have eG := gcdI_cross a.1 b.1 a.2.1 b.2.1 a1.1 b1.1 ga gb
      obtain ⟨dg1, ⟨t, ht⟩⟩ := gcdI_dvd (absI a.1) b.2.1 aa (by omega)
      obtain ⟨dh1, ⟨s, hs⟩⟩ := gcdI_dvd (absI b.1) a.2.1 ab (by omega)
      have dabs : ∀ (g n : Int), g ∣ absI n → g ∣ n := by
        intro g n hd
        unfold absI at hd
        rcases Int.natAbs_eq n with h | h
        · rw [h]; exact hd
        · rw [h]; exact (Int.dvd_neg).2 hd
      obtain ⟨u, hu⟩ := dabs _ _ dg1
      obtain ⟨v, hv⟩ := dabs _ _ dh1
      have sg := specGcd_ev (absI a.1) b.2.1 aa (by omega)
      have sh := specGcd_ev (absI b.1) a.2.1 ab (by omega)
      generalize hge : gcdI (absI a.1) b.2.1 = g at *
      generalize hhe : gcdI (absI b.1) a.2.1 = h at *
      have e1 : Int.tdiv a.1 g = u := by rw [hu]; exact Int.mul_tdiv_cancel_left _ (by omega)
      have e2 : Int.tdiv b.1 h = v := by rw [hv]; exact Int.mul_tdiv_cancel_left _ (by omega)
      have e3 : Int.tdiv a.2.1 h = s := by rw [hs]; exact Int.mul_tdiv_cancel_left _ (by omega)
      have e4 : Int.tdiv b.2.1 g = t := by rw [ht]; exact Int.mul_tdiv_cancel_left _ (by omega)
      have b1' : -1000000000 ≤ u ∧ u ≤ 1000000000 := by have := Int.natAbs_tdiv_le_natAbs a.1 g; rw [e1] at this; omega
      have b2' : -1000000000 ≤ v ∧ v ≤ 1000000000 := by have := Int.natAbs_tdiv_le_natAbs b.1 h; rw [e2] at this; omega
      have b3' : -1000000 ≤ s ∧ s ≤ 1000000 := by have := Int.natAbs_tdiv_le_natAbs a.2.1 h; rw [e3] at this; omega
      have b4' : -1000000 ≤ t ∧ t ≤ 1000000 := by have := Int.natAbs_tdiv_le_natAbs b.2.1 g; rw [e4] at this; omega
      have m1 : -1000000000000000000 ≤ u * v ∧ u * v ≤ 1000000000000000000 := by
        rcases Int.le_total 0 v with h' | h'
        · have := mul_bd (x := u) (y := v) (A := 1000000000) (B := 1000000000) b1' ⟨h', b2'.2⟩
          omega
        · have := mul_bd (x := u) (y := -v) (A := 1000000000) (B := 1000000000) b1' ⟨by omega, by omega⟩
          rw [Int.mul_neg] at this
          omega
      have m2 : -1000000000000 ≤ s * t ∧ s * t ≤ 1000000000000 := by
        rcases Int.le_total 0 t with h' | h'
        · have := mul_bd (x := s) (y := t) (A := 1000000) (B := 1000000) b3' ⟨h', b4'.2⟩
          omega
        · have := mul_bd (x := s) (y := -t) (A := 1000000) (B := 1000000) b3' ⟨by omega, by omega⟩
          rw [Int.mul_neg] at this
          omega
      have hgh : 0 < g * h := Int.mul_pos hg hh
      have eN : Int.tdiv (a.1 * b.1) (g * h) = u * v := by
        have : a.1 * b.1 = (g * h) * (u * v) := by rw [hu, hv, mul4]
        rw [this]; exact Int.mul_tdiv_cancel_left _ (by omega)
      have eD : Int.tdiv (a.2.1 * b.2.1) (g * h) = s * t := by
        have : a.2.1 * b.2.1 = (g * h) * (s * t) := by rw [hs, ht, mul4, Int.mul_comm h g]
        rw [this]; exact Int.mul_tdiv_cancel_left _ (by omega)
      refine Ev.eq (fun k => spec_MulRatio_eq k a b) (Ev.bind (specIsRatio_ev a) (Ev.neg (by simp [ca]) (Ev.bind (specIsRatio_ev b) (Ev.neg (by simp [cb]) (Ev.bind (specAbs_ev _ (by omega) (by omega)) (Ev.bind sg (Ev.bind (specAbs_ev _ (by omega) (by omega)) (Ev.bind sh (Ev.neg (by omega) (Ev.neg (by omega) (Ev.neg (by omega) (Ev.neg (by omega) ?_))))))))))))
      rw [e1, e2, e3, e4, wrapI (n := u) (by omega) (by omega), wrapI (n := v) (by omega) (by omega), wrapI (n := s) (by omega) (by omega), wrapI (n := t) (by omega) (by omega), wrapI (n := u * v) (by omega) (by omega), wrapI (n := s * t) (by omega) (by omega)]
      rw [if_pos ⟨ca, cb⟩]
      unfold mk
      rw [eG, eN, eD]
      refine Ev.bind (specIsRatio_ev _) ?_
      by_cases c : isR (u * v) (s * t) = true
      · exact Ev.neg (by simpa using c) (Ev.ret.val (by rw [if_pos c]))
      · exact Ev.pos (by simpa using c) (Ev.ret.val (by rw [if_neg c]; rfl))
    · exact Ev.eq (fun k => spec_MulRatio_eq k a b) (Ev.bind (specIsRatio_ev a) (Ev.neg (by simp [ca]) (Ev.bind (specIsRatio_ev b) (Ev.pos (by simpa using cb) (Ev.ret.val (by rw [if_neg (fun h => cb h.2)]; rfl))))))
  · exact Ev.eq (fun k => spec_MulRatio_eq k a b) (Ev.bind (specIsRatio_ev a) (Ev.pos (by simpa using ca) (Ev.ret.val (by rw [if_neg (fun h => ca h.1)]; rfl))))
def lessB (a b : DT23) : Bool := if isR a.1 a.2.1 = true then (if isR b.1 b.2.1 = true then decide (((IntKind.wrap .i64 (a.1 * b.2.1)) : Int) < (IntKind.wrap .i64 (b.1 * a.2.1))) else false) else false
theorem specLess_ev (a b : DT23) : Ev (fun k => spec_LessRatio k a b) (lessB a b) := by
  unfold lessB
  by_cases ca : isR a.1 a.2.1 = true
  · rw [if_pos ca]
    by_cases cb : isR b.1 b.2.1 = true
    · rw [if_pos cb]; exact Ev.eq (fun k => spec_LessRatio_eq k a b) (Ev.bind (specIsRatio_ev a) (Ev.pos ca (Ev.bind (specIsRatio_ev b) (Ev.pos cb Ev.ret))))
    · rw [if_neg cb]; exact Ev.eq (fun k => spec_LessRatio_eq k a b) (Ev.bind (specIsRatio_ev a) (Ev.pos ca (Ev.bind (specIsRatio_ev b) (Ev.neg cb Ev.ret))))
  · rw [if_neg ca]; exact Ev.eq (fun k => spec_LessRatio_eq k a b) (Ev.bind (specIsRatio_ev a) (Ev.neg ca Ev.ret))
theorem implLess_ev (a b : DT23) : Ev (fun k => impl_LessRatio k a b) (lessB a b) := by
  unfold lessB
  by_cases ca : isR a.1 a.2.1 = true
  · rw [if_pos ca]
    by_cases cb : isR b.1 b.2.1 = true
    · rw [if_pos cb]; exact Ev.eq (fun k => impl_LessRatio_eq k a b) (Ev.bind (implIsRatio_ev a) (Ev.pos ca (Ev.bind (implIsRatio_ev b) (Ev.pos cb Ev.ret))))
    · rw [if_neg cb]; exact Ev.eq (fun k => impl_LessRatio_eq k a b) (Ev.bind (implIsRatio_ev a) (Ev.pos ca (Ev.bind (implIsRatio_ev b) (Ev.neg cb Ev.ret))))
  · rw [if_neg ca]; exact Ev.eq (fun k => impl_LessRatio_eq k a b) (Ev.bind (implIsRatio_ev a) (Ev.neg ca Ev.ret))
theorem add_comm' (a b : DT23) : addR a b = addR b a := by
  unfold addR
  by_cases c : isR a.1 a.2.1 = true ∧ isR b.1 b.2.1 = true
  · rw [if_pos c, if_pos ⟨c.2, c.1⟩, Int.add_comm, Int.mul_comm a.2.1]
  · rw [if_neg c, if_neg (fun h => c ⟨h.2, h.1⟩)]
theorem mul_noR (a : DT23) : mulR a noR.1 = noR := by
  unfold mulR noR
  rw [if_neg (by rw [isR_00]; simp)]
/-- The end of TickAt: the rest, by the rate, behind the mark. -/
def tickR (ms st : DT23) (at_ rate : Int) : Res :=
  if (addR ms (IntKind.wrap .i64 (-st.1), (st.2.1, ()))).2.1 = true then
    (if (mulR (addR ms (IntKind.wrap .i64 (-st.1), (st.2.1, ()))).1 (mk rate 5000).1).2.1 = true then
      (if (addR (mulR (addR ms (IntKind.wrap .i64 (-st.1), (st.2.1, ()))).1 (mk rate 5000).1).1 (at_, (1, ()))).2.1 = true then
        ((addR (mulR (addR ms (IntKind.wrap .i64 (-st.1), (st.2.1, ()))).1 (mk rate 5000).1).1 (at_, (1, ()))).1, (true, ())) else noR) else noR) else noR
theorem tick_fin3 (a b c : Res) : E2 (fun _ _ => if ¬ (a.2.1 = true) then some ((0, (0, ())), (false, ())) else if ¬ (b.2.1 = true) then some ((0, (0, ())), (false, ())) else if ¬ (c.2.1 = true) then some ((0, (0, ())), (false, ())) else some (c.1, (true, ())))
    (if a.2.1 = true then (if b.2.1 = true then (if c.2.1 = true then (c.1, (true, ())) else noR) else noR) else noR : Res) := by
  by_cases h1 : a.2.1 = true
  · rw [if_pos h1]
    by_cases h2 : b.2.1 = true
    · rw [if_pos h2]
      by_cases h3 : c.2.1 = true
      · rw [if_pos h3]; exact E2.neg (by simpa using h1) (E2.neg (by simpa using h2) (E2.neg (by simpa using h3) E2.ret))
      · rw [if_neg h3]; exact E2.neg (by simpa using h1) (E2.neg (by simpa using h2) (E2.pos h3 E2.ret))
    · rw [if_neg h2]; exact E2.neg (by simpa using h1) (E2.pos h2 E2.ret)
  · rw [if_neg h1]; exact E2.pos h1 E2.ret
theorem tick_fin4 (a d b c : Res) (hd : d.2.1 = false → b.2.1 = false) : E2 (fun _ _ => if ¬ (a.2.1 = true) then some ((0, (0, ())), (false, ())) else if ¬ (d.2.1 = true) then some ((0, (0, ())), (false, ())) else if ¬ (b.2.1 = true) then some ((0, (0, ())), (false, ())) else if ¬ (c.2.1 = true) then some ((0, (0, ())), (false, ())) else some (c.1, (true, ())))
    (if a.2.1 = true then (if b.2.1 = true then (if c.2.1 = true then (c.1, (true, ())) else noR) else noR) else noR : Res) := by
  by_cases h0 : d.2.1 = true
  · by_cases h1 : a.2.1 = true
    · rw [if_pos h1]
      by_cases h2 : b.2.1 = true
      · rw [if_pos h2]
        by_cases h3 : c.2.1 = true
        · rw [if_pos h3]; exact E2.neg (by simpa using h1) (E2.neg (by simpa using h0) (E2.neg (by simpa using h2) (E2.neg (by simpa using h3) E2.ret)))
        · rw [if_neg h3]; exact E2.neg (by simpa using h1) (E2.neg (by simpa using h0) (E2.neg (by simpa using h2) (E2.pos h3 E2.ret)))
      · rw [if_neg h2]; exact E2.neg (by simpa using h1) (E2.neg (by simpa using h0) (E2.pos h2 E2.ret))
    · rw [if_neg h1]; exact E2.pos h1 E2.ret
  · have hb := hd (by simpa using h0)
    by_cases h1 : a.2.1 = true
    · rw [if_pos h1, if_neg (show ¬ b.2.1 = true by rw [hb]; simp)]; exact E2.neg (by simpa using h1) (E2.pos h0 E2.ret)
    · rw [if_neg h1]; exact E2.pos h1 E2.ret
theorem mk_noR_mul {n d : Int} (x : DT23) (h : (mk n d).2.1 = false) : (mulR x (mk n d).1).2.1 = false := by
  rw [mk_no h, mul_noR]; rfl
theorem tickAt_both (l : List DT23) (ms : DT23) (hl : l.length ≤ 1048576) : ∃ v : Res, Ev (fun k => spec_TickAt k l ms) v ∧ Ev (fun k => impl_TickAt k l ms) v := by
  by_cases hp : tempoP l
  · by_cases hm : isR ms.1 ms.2.1 = true
    · by_cases hn : (ms.1 : Int) < 0
      · exact ⟨noR, Ev.eq (fun k => spec_TickAt_eq k l ms) (Ev.bind (specTempo_ev l hl) (Ev.neg (by simpa using hp) (Ev.bind (specIsRatio_ev ms) (Ev.neg (by simpa using hm) (Ev.pos hn Ev.ret))))),
          Ev.eq (fun k => impl_TickAt_eq k l ms) (Ev.bind (implTempo_ev l hl) (Ev.neg (by simpa using hp) (Ev.bind (implIsRatio_ev ms) (Ev.neg (by simpa using hm) (Ev.pos hn Ev.ret)))))⟩
      · have h1 : 1 ≤ l.length := by have := hp.2; simp at this; omega
        have ht : List.take (Int.toNat ((List.length l : Nat) : Int) - Int.toNat 1) (List.drop (Int.toNat 1) l) = l.drop 1 := by
          rw [Int.toNat_natCast]
          show List.take (l.length - 1) (l.drop 1) = l.drop 1
          rw [List.take_of_length_le (by simp)]
        have hlt : ((l.drop 1).length : Int) = ((l.length - 1 : Nat) : Int) := by simp
        have rate : ∀ i : Nat, i < l.length → LE.le (α := Int) 20 (rd T23 l (i : Int)).2.1 ∧ LE.le (α := Int) (rd T23 l (i : Int)).2.1 300 := fun i hi => (hp.1 i hi).1.1
        have key : ∀ d (i c : Nat) (a b x y : Int) (u1 u2 w1 w2 : Int), i + d = l.length → 1 ≤ i → c < l.length → ∃ v : Res, E2 (fun k m => spec_TickAt.l0 k m l (c : Int) (i : Int) ms.1 ms.2.1 u1 u2 x y) v ∧
            E2 (fun k m => impl_TickAt.l0 k m l (l.drop 1) ((List.length (l.drop 1) : Nat) : Int) ((i - 1 : Nat) : Int) ms.1 ms.2.1 w1 w2 (rd T23 l (c : Int)).1 (rd T23 l (c : Int)).2.1 x y) v := by
          intro d
          induction d with
          | zero =>
            intro i c a b x y u1 u2 w1 w2 hi hi1 hc
            have hr := rate c hc
            refine ⟨tickR ms (x, (y, ())) (rd T23 l (c : Int)).1 (rd T23 l (c : Int)).2.1, E2.eq (fun k m => spec_TickAt.l0_eq k m l _ _ _ _ _ _ _ _) (E2.neg (by omega) (E2.bind (specAdd_ev _ _) (E2.pos (by omega) (E2.pos (by omega) (E2.bind (specMake_ev _ _ (by omega) (by omega) (by omega) (by omega)) (E2.bind (specMul_ev _ _) (E2.pos (by omega) (E2.pos (by omega) (E2.bind (specAdd_ev _ _) (tick_fin3 _ _ _)))))))))),
              E2.eq (fun k m => impl_TickAt.l0_eq k m l _ _ _ _ _ _ _ _ _ _ _) (E2.neg (by omega) (E2.bind (implAdd_ev _ _) (E2.bind (implMake_ev _ _ (by omega) (by omega) (by omega) (by omega)) (E2.bind (implMul_ev _ _) (E2.bind (implAdd_ev _ _) ?_)))))⟩
            rw [add_comm' ((rd T23 l (c : Int)).1, (1, ()))]
            exact tick_fin4 _ _ _ _ (mk_noR_mul _)
          | succ d ih =>
            intro i c a b x y u1 u2 w1 w2 hi hi1 hc
            have hr := rate c hc
            have hlt' : i < l.length := by omega
            have hrd : rd T23 (l.drop 1) ((i - 1 : Nat) : Int) = rd T23 l (i : Int) := by
              rw [rd_at (by simp; omega), rd_at hlt', List.getElem_drop]
              congr 1
              omega
            obtain ⟨t, et1, et2, _⟩ := timeOf_both l (rd T23 l (i : Int)).1 hl
            have hw : IntKind.wrap .i64 (((i - 1 : Nat) : Int) + 1) = ((i + 1 - 1 : Nat) : Int) := by rw [wrapS (by omega)]; congr 1; omega
            by_cases cok : t.2.1 = true
            · by_cases cls : lessB (ms.1, (ms.2.1, ())) t.1 = true
              · refine ⟨tickR ms (x, (y, ())) (rd T23 l (c : Int)).1 (rd T23 l (c : Int)).2.1, E2.eq (fun k m => spec_TickAt.l0_eq k m l _ _ _ _ _ _ _ _) (E2.pos (by omega) (E2.pos (by omega) (E2.pos (by omega) (E2.bind et1 (E2.neg (by simpa using cok) (E2.bind (specLess_ev _ _) (E2.pos cls (E2.bind (specAdd_ev _ _) (E2.pos (by omega) (E2.pos (by omega) (E2.bind (specMake_ev _ _ (by omega) (by omega) (by omega) (by omega)) (E2.bind (specMul_ev _ _) (E2.pos (by omega) (E2.pos (by omega) (E2.bind (specAdd_ev _ _) (tick_fin3 _ _ _)))))))))))))))),
                  E2.eq (fun k m => impl_TickAt.l0_eq k m l _ _ _ _ _ _ _ _ _ _ _) (E2.pos (by omega) (E2.pos (by omega) (E2.pos (by omega) ?_)))⟩
                rw [hrd]
                refine E2.bind et2 (E2.neg (by simpa using cok) (E2.bind (implLess_ev _ _) (E2.pos cls (E2.bind (implAdd_ev _ _) (E2.bind (implMake_ev _ _ (by omega) (by omega) (by omega) (by omega)) (E2.bind (implMul_ev _ _) (E2.bind (implAdd_ev _ _) ?_)))))))
                rw [add_comm' ((rd T23 l (c : Int)).1, (1, ()))]
                exact tick_fin4 _ _ _ _ (mk_noR_mul _)
              · obtain ⟨v, e1, e2⟩ := ih (i + 1) i a b t.1.1 t.1.2.1 u1 u2 w1 w2 (by omega) (by omega) hlt'
                refine ⟨v, E2.eq (fun k m => spec_TickAt.l0_eq k m l _ _ _ _ _ _ _ _) (E2.pos (by omega) (E2.pos (by omega) (E2.pos (by omega) (E2.bind et1 (E2.neg (by simpa using cok) (E2.bind (specLess_ev _ _) (E2.neg cls ?_))))))),
                  E2.eq (fun k m => impl_TickAt.l0_eq k m l _ _ _ _ _ _ _ _ _ _ _) (E2.pos (by omega) (E2.pos (by omega) (E2.pos (by omega) ?_)))⟩
                · simp only [wrapS (show i < 9223372036854775807 by omega)]; exact e1
                · rw [hrd]
                  refine E2.bind et2 (E2.neg (by simpa using cok) (E2.bind (implLess_ev _ _) (E2.neg cls ?_)))
                  rw [hw]; exact e2
            · refine ⟨noR, E2.eq (fun k m => spec_TickAt.l0_eq k m l _ _ _ _ _ _ _ _) (E2.pos (by omega) (E2.pos (by omega) (E2.pos (by omega) (E2.bind et1 (E2.pos cok E2.ret))))),
                E2.eq (fun k m => impl_TickAt.l0_eq k m l _ _ _ _ _ _ _ _ _ _ _) (E2.pos (by omega) (E2.pos (by omega) (E2.pos (by omega) ?_)))⟩
              rw [hrd]
              exact E2.bind et2 (E2.pos cok E2.ret)
        obtain ⟨v, e1, e2⟩ := key (l.length - 1) 1 0 0 0 0 1 0 0 0 0 (by omega) (by omega) (by omega)
        refine ⟨v, Ev.eq (fun k => spec_TickAt_eq k l ms) (Ev.bind (specTempo_ev l hl) (Ev.neg (by simpa using hp) (Ev.bind (specIsRatio_ev ms) (Ev.neg (by simpa using hm) (Ev.neg hn (Ev.loop (f := fun k m => spec_TickAt.l0 k m l 0 1 ms.1 ms.2.1 0 0 0 1) e1)))))),
          Ev.eq (fun k => impl_TickAt_eq k l ms) (Ev.bind (implTempo_ev l hl) (Ev.neg (by simpa using hp) (Ev.bind (implIsRatio_ev ms) (Ev.neg (by simpa using hm) (Ev.neg hn (Ev.pos (by omega) (Ev.pos (by omega) (Ev.pos (by omega) (Ev.pos (by omega) ?_)))))))))⟩
        rw [ht]
        exact Ev.loop (f := fun k m => impl_TickAt.l0 k m l (l.drop 1) ((List.length (l.drop 1) : Nat) : Int) 0 ms.1 ms.2.1 0 0 (rd T23 l 0).1 (rd T23 l 0).2.1 0 1) e2
    · exact ⟨noR, Ev.eq (fun k => spec_TickAt_eq k l ms) (Ev.bind (specTempo_ev l hl) (Ev.neg (by simpa using hp) (Ev.bind (specIsRatio_ev ms) (Ev.pos (by simpa using hm) Ev.ret)))),
        Ev.eq (fun k => impl_TickAt_eq k l ms) (Ev.bind (implTempo_ev l hl) (Ev.neg (by simpa using hp) (Ev.bind (implIsRatio_ev ms) (Ev.pos (by simpa using hm) Ev.ret))))⟩
  · exact ⟨noR, Ev.eq (fun k => spec_TickAt_eq k l ms) (Ev.bind (specTempo_ev l hl) (Ev.pos (by simpa using hp) Ev.ret)),
      Ev.eq (fun k => impl_TickAt_eq k l ms) (Ev.bind (implTempo_ev l hl) (Ev.pos (by simpa using hp) Ev.ret))⟩
theorem isExact_both (o : DT30) (h1 : o.1.length ≤ 1048576) (h2 : o.2.2.1.length ≤ 1048576) : ∃ r, Ev (fun k => spec_IsExact k o) r ∧ Ev (fun k => impl_IsExact k o) r := by
  obtain ⟨tv, htv⟩ : ∃ tv : Int → Res, ∀ t, Ev (fun k => spec_TimeOf k o.2.2.1 t) (tv t) ∧ Ev (fun k => impl_TimeOf k o.2.2.1 t) (tv t) :=
    ⟨fun t => Classical.choose (timeOf_both o.2.2.1 t h2), fun t => let h := Classical.choose_spec (timeOf_both o.2.2.1 t h2); ⟨h.1, h.2.1⟩⟩
  obtain ⟨kv, hkv⟩ : ∃ kv : DT23 → Res, ∀ m, Ev (fun k => spec_TickAt k o.2.2.1 m) (kv m) ∧ Ev (fun k => impl_TickAt k o.2.2.1 m) (kv m) :=
    ⟨fun m => Classical.choose (tickAt_both o.2.2.1 m h2), fun m => Classical.choose_spec (tickAt_both o.2.2.1 m h2)⟩
  have key : ∃ r, Ev (fun k => spec_IsExact k o) r ∧ (r = true ↔ (∀ i, i < o.1.length → ((tv (rd T80 o.1 (i : Int)).1).2.1 = true ∧ (kv (tv (rd T80 o.1 (i : Int)).1).1).2.1 = true ∧ (((kv (tv (rd T80 o.1 (i : Int)).1).1).1.1 : Int) = (rd T80 o.1 (i : Int)).1 ∧ ((kv (tv (rd T80 o.1 (i : Int)).1).1).1.2.1 : Int) = 1))) ∧ true = true) := by
    obtain ⟨r, er, hr⟩ := loop_allR (R := fun i v => E2 (fun k m => spec_IsExact.l0 k m i o.1 o.2.1.1 o.2.1.2.1 o.2.2.1 o.2.2.2.1 o.2.2.2.2.1 o.2.2.2.2.2.1 o.2.2.2.2.2.2.1 o.2.2.2.2.2.2.2.1 o.2.2.2.2.2.2.2.2.1) v) (n := o.1.length)
      (fun i => (tv (rd T80 o.1 (i : Int)).1).2.1 = true ∧ (kv (tv (rd T80 o.1 (i : Int)).1).1).2.1 = true ∧ (((kv (tv (rd T80 o.1 (i : Int)).1).1).1.1 : Int) = (rd T80 o.1 (i : Int)).1 ∧ ((kv (tv (rd T80 o.1 (i : Int)).1).1).1.2.1 : Int) = 1)) true
      (E2.eq (fun k m => spec_IsExact.l0_eq k m _ _ _ _ _ _ _ _ _ _ _) (E2.neg (by omega) E2.ret)) (fun i hi hq v e => by
        obtain ⟨q1, q2, q3⟩ := hq
        refine E2.eq (fun k m => spec_IsExact.l0_eq k m _ _ _ _ _ _ _ _ _ _ _) (E2.pos (by omega) (E2.pos (by omega) (E2.pos (by omega) (E2.bind (htv _).1 (E2.bind (hkv _).1 (E2.neg (by simpa using q1) (E2.neg (by simpa using q2) (E2.pos (by omega) (E2.pos (by omega) (E2.neg (fun c => c q3) ?_))))))))))
        simp only [wrapS (show i < 9223372036854775807 by omega)]; exact e) (fun i hi hq => by
        refine E2.eq (fun k m => spec_IsExact.l0_eq k m _ _ _ _ _ _ _ _ _ _ _) (E2.pos (by omega) (E2.pos (by omega) (E2.pos (by omega) (E2.bind (htv _).1 (E2.bind (hkv _).1 ?_)))))
        by_cases q1 : (tv (rd T80 o.1 (i : Int)).1).2.1 = true
        · refine E2.neg (by simpa using q1) ?_
          by_cases q2 : (kv (tv (rd T80 o.1 (i : Int)).1).1).2.1 = true
          · exact E2.neg (by simpa using q2) (E2.pos (by omega) (E2.pos (by omega) (E2.pos (fun q3 => hq ⟨q1, q2, q3⟩) E2.ret)))
          · exact E2.pos q2 E2.ret
        · exact E2.pos q1 E2.ret)
    exact ⟨r, Ev.eq (fun k => spec_IsExact_eq k o) (Ev.loop (f := fun k m => spec_IsExact.l0 k m 0 o.1 o.2.1.1 o.2.1.2.1 o.2.2.1 o.2.2.2.1 o.2.2.2.2.1 o.2.2.2.2.2.1 o.2.2.2.2.2.2.1 o.2.2.2.2.2.2.2.1 o.2.2.2.2.2.2.2.2.1) er), hr⟩
  obtain ⟨r, er, hr⟩ := key
  have one : ∀ i, i < o.1.length → ∃ b, Ev (fun k => impl_IsExact_1 k (rd T80 o.1 (i : Int)) o) b ∧ (b = false ↔ ((tv (rd T80 o.1 (i : Int)).1).2.1 = true ∧ (kv (tv (rd T80 o.1 (i : Int)).1).1).2.1 = true ∧ (((kv (tv (rd T80 o.1 (i : Int)).1).1).1.1 : Int) = (rd T80 o.1 (i : Int)).1 ∧ ((kv (tv (rd T80 o.1 (i : Int)).1).1).1.2.1 : Int) = 1))) := by
    intro i hi
    by_cases q1 : (tv (rd T80 o.1 (i : Int)).1).2.1 = true
    · by_cases q2 : (kv (tv (rd T80 o.1 (i : Int)).1).1).2.1 = true
      · exact ⟨_, Ev.eq (fun k => impl_IsExact_1_eq k _ o) (Ev.bind (htv _).2 (Ev.bind (hkv _).2 (Ev.neg (by simpa using q1) (Ev.neg (by simpa using q2) Ev.ret)))), by rw [decide_eq_false_iff_not]; exact ⟨fun h => ⟨q1, q2, Classical.not_not.1 h⟩, fun h c => c h.2.2⟩⟩
      · exact ⟨true, Ev.eq (fun k => impl_IsExact_1_eq k _ o) (Ev.bind (htv _).2 (Ev.bind (hkv _).2 (Ev.neg (by simpa using q1) (Ev.pos q2 Ev.ret)))), by simp [q2]⟩
    · exact ⟨true, Ev.eq (fun k => impl_IsExact_1_eq k _ o) (Ev.bind (htv _).2 (Ev.bind (hkv _).2 (Ev.pos q1 Ev.ret))), by simp [q1]⟩
  obtain ⟨bv, hbv⟩ : ∃ bv : Nat → Bool, ∀ i, i < o.1.length → Ev (fun k => impl_IsExact_1 k (rd T80 o.1 (i : Int)) o) (bv i) ∧ (bv i = false ↔ ((tv (rd T80 o.1 (i : Int)).1).2.1 = true ∧ (kv (tv (rd T80 o.1 (i : Int)).1).1).2.1 = true ∧ (((kv (tv (rd T80 o.1 (i : Int)).1).1).1.1 : Int) = (rd T80 o.1 (i : Int)).1 ∧ ((kv (tv (rd T80 o.1 (i : Int)).1).1).1.2.1 : Int) = 1))) := by
    refine ⟨fun i => if h : i < o.1.length then Classical.choose (one i h) else false, fun i hi => ?_⟩
    simp only [hi, dif_pos]
    exact Classical.choose_spec (one i hi)
  have ef := loop_firstR (R := fun i v => E2 (fun k m => slices_IndexFunc_impl_Event_58.l0 k m o.1 o ((List.length o.1 : Nat) : Int) i) v) (n := o.1.length) bv (E2.eq (fun k m => slices_IndexFunc_impl_Event_58.l0_eq k m _ _ _ _) (E2.neg (by omega) E2.ret)) (fun i hi hq v e => by
    refine E2.eq (fun k m => slices_IndexFunc_impl_Event_58.l0_eq k m _ _ _ _) (E2.pos (by omega) (E2.pos (by omega) (E2.pos (by omega) (E2.bind (hbv i hi).1 (E2.neg (by rw [hq]; simp) ?_)))))
    simp only [wrapS (show i < 9223372036854775807 by omega)]; exact e) (fun i hi hq => E2.eq (fun k m => slices_IndexFunc_impl_Event_58.l0_eq k m _ _ _ _) (E2.pos (by omega) (E2.pos (by omega) (E2.pos (by omega) (E2.bind (hbv i hi).1 (E2.pos hq E2.ret))))))
  refine ⟨r, er, Ev.eq (fun k => impl_IsExact_eq k o) (Ev.bind (Ev.eq (fun k => slices_ContainsFunc_impl_Event_58_eq k o.1 o) (Ev.bind (Ev.eq (fun k => slices_IndexFunc_impl_Event_58_eq k o.1 o) (Ev.loop (f := fun k m => slices_IndexFunc_impl_Event_58.l0 k m o.1 o ((List.length o.1 : Nat) : Int) 0) ef)) Ev.ret)) (Ev.ret.val ?_))⟩
  rw [Bool.eq_iff_iff, decide_eq_true_eq, hr, decide_eq_true_eq, firstI_nonneg]
  constructor
  · intro h
    refine ⟨fun i hi => (hbv i hi).2.1 ?_, rfl⟩
    cases hb : bv i with
    | false => rfl
    | true => exact absurd ⟨i, hi, hb⟩ h
  · rintro ⟨h, _⟩ ⟨i, hi, hb⟩
    rw [(hbv i hi).2.2 (h i hi)] at hb
    cases hb
theorem areSeated_both (o : DT30) (h1 : o.1.length ≤ 1048576) : ∃ r, Ev (fun k => spec_AreSeated k o) r ∧ Ev (fun k => impl_AreSeated k o) r := by
  have key : ∃ r, Ev (fun k => spec_AreSeated k o) r ∧ (r = true ↔ (∀ i, i < o.1.length → ¬ (LT.lt (α := Int) ((List.length o.2.2.2.2.1 : Nat) : Int) (rd T80 o.1 (i : Int)).2.2.2.1)) ∧ true = true) := by
    obtain ⟨r, er, hr⟩ := loop_allR (R := fun i v => E2 (fun k m => spec_AreSeated.l0 k m i o.1 o.2.1.1 o.2.1.2.1 o.2.2.1 o.2.2.2.1 o.2.2.2.2.1 o.2.2.2.2.2.1 o.2.2.2.2.2.2.1 o.2.2.2.2.2.2.2.1 o.2.2.2.2.2.2.2.2.1) v) (n := o.1.length)
      (fun i => ¬ (LT.lt (α := Int) ((List.length o.2.2.2.2.1 : Nat) : Int) (rd T80 o.1 (i : Int)).2.2.2.1)) true
      (E2.eq (fun k m => spec_AreSeated.l0_eq k m _ _ _ _ _ _ _ _ _ _ _) (E2.neg (by omega) E2.ret)) (fun i hi hq v e => by
        refine E2.eq (fun k m => spec_AreSeated.l0_eq k m _ _ _ _ _ _ _ _ _ _ _) (E2.pos (by omega) (E2.pos (by omega) (E2.pos (by omega) (E2.neg hq ?_))))
        simp only [wrapS (show i < 9223372036854775807 by omega)]; exact e) (fun i hi hq =>
        E2.eq (fun k m => spec_AreSeated.l0_eq k m _ _ _ _ _ _ _ _ _ _ _) (E2.pos (by omega) (E2.pos (by omega) (E2.pos (by omega) (E2.pos (Classical.not_not.1 hq) E2.ret)))))
    exact ⟨r, Ev.eq (fun k => spec_AreSeated_eq k o) (Ev.loop (f := fun k m => spec_AreSeated.l0 k m 0 o.1 o.2.1.1 o.2.1.2.1 o.2.2.1 o.2.2.2.1 o.2.2.2.2.1 o.2.2.2.2.2.1 o.2.2.2.2.2.2.1 o.2.2.2.2.2.2.2.1 o.2.2.2.2.2.2.2.2.1) er), hr⟩
  obtain ⟨r, er, hr⟩ := key
  have one : ∀ i : Nat, Ev (fun k => impl_AreSeated_1 k (rd T80 o.1 (i : Int)) o) (decide (LT.lt (α := Int) ((List.length o.2.2.2.2.1 : Nat) : Int) (rd T80 o.1 (i : Int)).2.2.2.1)) := fun i => Ev.eq (fun k => impl_AreSeated_1_eq k _ o) Ev.ret
  have ef := loop_firstR (R := fun i v => E2 (fun k m => slices_IndexFunc_impl_Event_61.l0 k m o.1 o ((List.length o.1 : Nat) : Int) i) v) (n := o.1.length) (fun i => decide (LT.lt (α := Int) ((List.length o.2.2.2.2.1 : Nat) : Int) (rd T80 o.1 (i : Int)).2.2.2.1)) (E2.eq (fun k m => slices_IndexFunc_impl_Event_61.l0_eq k m _ _ _ _) (E2.neg (by omega) E2.ret)) (fun i hi hq v e => by
    refine E2.eq (fun k m => slices_IndexFunc_impl_Event_61.l0_eq k m _ _ _ _) (E2.pos (by omega) (E2.pos (by omega) (E2.pos (by omega) (E2.bind (one i) (E2.neg (by rw [hq]; simp) ?_)))))
    simp only [wrapS (show i < 9223372036854775807 by omega)]; exact e) (fun i hi hq => E2.eq (fun k m => slices_IndexFunc_impl_Event_61.l0_eq k m _ _ _ _) (E2.pos (by omega) (E2.pos (by omega) (E2.pos (by omega) (E2.bind (one i) (E2.pos hq E2.ret))))))
  refine ⟨r, er, Ev.eq (fun k => impl_AreSeated_eq k o) (Ev.bind (Ev.eq (fun k => slices_ContainsFunc_impl_Event_61_eq k o.1 o) (Ev.bind (Ev.eq (fun k => slices_IndexFunc_impl_Event_61_eq k o.1 o) (Ev.loop (f := fun k m => slices_IndexFunc_impl_Event_61.l0 k m o.1 o ((List.length o.1 : Nat) : Int) 0) ef)) Ev.ret)) (Ev.ret.val ?_))⟩
  rw [Bool.eq_iff_iff, decide_eq_true_eq, hr, decide_eq_true_eq, firstI_nonneg]
  constructor
  · intro h
    refine ⟨fun i hi c => h ⟨i, hi, decide_eq_true c⟩, rfl⟩
  · rintro ⟨h, _⟩ ⟨i, hi, c⟩
    exact h i hi (of_decide_eq_true c)
theorem faultOf_both (o : DT30) (h : Sm o) (h1 : o.1.length ≤ 1048576) (h2 : o.2.2.1.length ≤ 1048576) : ∃ r, Ev (fun k => spec_FaultOf k o) r ∧ Ev (fun k => impl_FaultOf k o) r := by
  obtain ⟨v1, a1, c1⟩ := isOrchestra_both o h
  obtain ⟨v2, a2, c2⟩ := isExact_both o h1 h2
  obtain ⟨v3, a3, c3⟩ := areSeated_both o h1
  by_cases x1 : v1 = true
  · by_cases x2 : v2 = true
    · by_cases x3 : v3 = true
      · exact ⟨_, Ev.eq (fun k => spec_FaultOf_eq k o) (Ev.bind a1 (Ev.neg (by simpa using x1) (Ev.bind a2 (Ev.neg (by simpa using x2) (Ev.bind a3 (Ev.neg (by simpa using x3) Ev.ret)))))),
          Ev.eq (fun k => impl_FaultOf_eq k o) (Ev.bind c1 (Ev.neg (by simpa using x1) (Ev.bind c2 (Ev.neg (by simpa using x2) (Ev.bind c3 (Ev.neg (by simpa using x3) Ev.ret))))))⟩
      · exact ⟨_, Ev.eq (fun k => spec_FaultOf_eq k o) (Ev.bind a1 (Ev.neg (by simpa using x1) (Ev.bind a2 (Ev.neg (by simpa using x2) (Ev.bind a3 (Ev.pos x3 Ev.ret)))))),
          Ev.eq (fun k => impl_FaultOf_eq k o) (Ev.bind c1 (Ev.neg (by simpa using x1) (Ev.bind c2 (Ev.neg (by simpa using x2) (Ev.bind c3 (Ev.pos x3 Ev.ret))))))⟩
    · exact ⟨_, Ev.eq (fun k => spec_FaultOf_eq k o) (Ev.bind a1 (Ev.neg (by simpa using x1) (Ev.bind a2 (Ev.pos x2 Ev.ret)))),
        Ev.eq (fun k => impl_FaultOf_eq k o) (Ev.bind c1 (Ev.neg (by simpa using x1) (Ev.bind c2 (Ev.pos x2 Ev.ret))))⟩
  · exact ⟨_, Ev.eq (fun k => spec_FaultOf_eq k o) (Ev.bind a1 (Ev.pos x1 Ev.ret)), Ev.eq (fun k => impl_FaultOf_eq k o) (Ev.bind c1 (Ev.pos x1 Ev.ret))⟩
theorem pure (a0 : DT30) (w0 : Wd T30 a0) : ∃ k, laws_FnExactFaultOf k a0 = some true := by
  refine Ev.at (f := fun k => laws_FnExactFaultOf k a0) ?_
  obtain ⟨r0, e0, h0⟩ := laws_szOrchestra_ok a0 w0 1048576 (by omega) (by omega)
  by_cases c0 : r0 < 0
  · exact Ev.eq (fun k => laws_FnExactFaultOf_eq k a0) (Ev.bind e0 (Ev.pos c0 Ev.ret))
  replace h0 := h0.resolve_left c0
  have b0 := h0.2.2
  obtain ⟨v, e1, e2⟩ := faultOf_both a0 (sm_of b0) b0.1.1 b0.2.2.1.1
  exact Ev.eq (fun k => laws_FnExactFaultOf_eq k a0) (Ev.bind e0 (Ev.neg c0 (Ev.bind (laws_toOrchestra_id _ b0) (Ev.bind e1 (Ev.bind (laws_toOrchestra_id _ b0) (Ev.bind e2 (Ev.neg (by simp) (Ev.bind (laws_toOrchestra_id _ b0) (Ev.bind (laws_eqOrchestra_self _ b0) (Ev.neg (by simp) Ev.ret))))))))))
end Go.QFnExactFaultOf
