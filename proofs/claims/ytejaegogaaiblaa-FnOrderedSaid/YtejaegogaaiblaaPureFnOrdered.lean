/- The plain half of FnOrdered. No condition. -/
import Derived.Test.YtejaegogaaiblaaQFnOrdered
import Derived.Test.YtejaegogaaiblaaPur
import Derived.Test.YtejaegogaaiblaaPureBest
import Derived.Test.YtejaegogaaiblaaBestF
set_option linter.unusedVariables false
set_option linter.unusedSimpArgs false
open Go Go.Flat
namespace Go.QFnOrdered
theorem l1In_ev (x lo hi : Int) : Ev (fun k => spec_l1In k x lo hi) (decide (lo ≤ x ∧ x ≤ hi)) := by
  by_cases c : lo ≤ x
  · exact Ev.eq (fun k => spec_l1In_eq k x lo hi) (Ev.pos c (Ev.ret.val (by simp [c])))
  · exact Ev.eq (fun k => spec_l1In_eq k x lo hi) (Ev.neg c (Ev.ret.val (by simp [c])))
theorem inRange_ev (x lo hi : Int) : Ev (fun k => impl_InRange k x lo hi) (decide (lo ≤ x ∧ x ≤ hi)) := by
  by_cases c : lo ≤ x
  · exact Ev.eq (fun k => impl_InRange_eq k x lo hi) (Ev.pos c (Ev.ret.val (by simp [c])))
  · exact Ev.eq (fun k => impl_InRange_eq k x lo hi) (Ev.neg c (Ev.ret.val (by simp [c])))
theorem dec_of {f : Nat → Option Bool} {p : Prop} [d : Decidable p] (h : ∃ r, Ev f r ∧ (r = true ↔ p)) : Ev f (decide p) := by
  obtain ⟨r, e, hr⟩ := h
  exact e.val (by rw [Bool.eq_iff_iff, hr]; simp)
theorem wrapP {i : Nat} (h : 0 < i) (h2 : i < 9223372036854775807) : IntKind.wrap .i64 ((i : Int) - 1) = ((i - 1 : Nat) : Int) := by
  rw [wrapI (by omega) (by omega)]; omega
theorem has_ev (l : List Int) (x : Int) (hl : l.length ≤ 1048576) : Ev (fun k => spec_l27Has k l x) (decide (x ∈ l)) := by
  refine dec_of ?_
  obtain ⟨r, er, hr⟩ := loop_anyR (R := fun i v => E2 (fun k m => spec_l27Has.l0 k m l x i) v) (n := l.length) (fun i => Eq (α := Int) (rd (.int .i64) l (i : Int)) x) (E2.eq (fun k m => spec_l27Has.l0_eq k m l x _) (E2.neg (by omega) E2.ret)) (fun i hi hq v e => by
    refine E2.eq (fun k m => spec_l27Has.l0_eq k m l x _) (E2.pos (by omega) (E2.pos (by omega) (E2.pos (by omega) (E2.neg hq ?_))))
    simp only [wrapS (show i < 9223372036854775807 by omega)]; exact e) (fun i hi hq => E2.eq (fun k m => spec_l27Has.l0_eq k m l x _) (E2.pos (by omega) (E2.pos (by omega) (E2.pos (by omega) (E2.pos hq E2.ret)))))
  refine ⟨r, Ev.eq (fun k => spec_l27Has_eq k l x) (Ev.loop (f := fun k m => spec_l27Has.l0 k m l x 0) er), hr.trans ⟨fun ⟨i, hi, h⟩ => ?_, fun h => ?_⟩⟩
  · rw [← h, rd_at hi]; exact List.getElem_mem hi
  · obtain ⟨i, hi, h⟩ := List.mem_iff_getElem.1 h
    exact ⟨i, hi, by rw [rd_at hi]; exact h⟩
theorem index_ev (l : List Int) (x : Int) (hl : l.length ≤ 1048576) : Ev (fun k => slices_Index___int_int k l x) (firstI (fun i => decide (Eq (α := Int) x (rd (.int .i64) l (i : Int)))) l.length) := by
  have er := loop_firstR (R := fun i v => E2 (fun k m => slices_Index___int_int.l0 k m l x ((List.length l : Nat) : Int) i) v) (n := l.length) (fun i => decide (Eq (α := Int) x (rd (.int .i64) l (i : Int)))) (E2.eq (fun k m => slices_Index___int_int.l0_eq k m l x _ _) (E2.neg (by omega) E2.ret)) (fun i hi hq v e => by
    refine E2.eq (fun k m => slices_Index___int_int.l0_eq k m l x _ _) (E2.pos (by omega) (E2.pos (by omega) (E2.pos (by omega) (E2.neg (by simpa using hq) ?_))))
    simp only [wrapS (show i < 9223372036854775807 by omega)]; exact e) (fun i hi hq => E2.eq (fun k m => slices_Index___int_int.l0_eq k m l x _ _) (E2.pos (by omega) (E2.pos (by omega) (E2.pos (by omega) (E2.pos (by simpa using hq) E2.ret)))))
  exact Ev.eq (fun k => slices_Index___int_int_eq k l x) (Ev.loop (f := fun k m => slices_Index___int_int.l0 k m l x ((List.length l : Nat) : Int) 0) er)
theorem contains_ev (l : List Int) (x : Int) (hl : l.length ≤ 1048576) : Ev (fun k => slices_Contains___int_int k l x) (decide (x ∈ l)) := by
  refine Ev.eq (fun k => slices_Contains___int_int_eq k l x) (Ev.bind (index_ev l x hl) (Ev.ret.val ?_))
  rw [Bool.eq_iff_iff, decide_eq_true_eq, decide_eq_true_eq, firstI_nonneg]
  constructor
  · rintro ⟨i, hi, h⟩
    have h : x = rd (.int .i64) l (i : Int) := by simpa using h
    rw [h, rd_at hi]; exact List.getElem_mem hi
  · intro h
    obtain ⟨i, hi, h⟩ := List.mem_iff_getElem.1 h
    exact ⟨i, hi, by rw [decide_eq_true_eq, rd_at hi]; exact h.symm⟩
def QA (lo hi : Int) (l : List Int) (i : Nat) : Prop := (LE.le (α := Int) lo (rd (.int .i64) l (i : Int)) ∧ LE.le (α := Int) (rd (.int .i64) l (i : Int)) hi) ∧ (0 < i → LT.lt (α := Int) (rd (.int .i64) l ((i - 1 : Nat) : Int)) (rd (.int .i64) l (i : Int)))
def ascP (l : List Int) (lo hi : Int) : Prop := ∀ i, i < l.length → QA lo hi l i
theorem notA {lo hi : Int} {l : List Int} {i : Nat} (h : ¬ QA lo hi l i) (h1 : LE.le (α := Int) lo (rd (.int .i64) l (i : Int)) ∧ LE.le (α := Int) (rd (.int .i64) l (i : Int)) hi) : 0 < i ∧ ¬ LT.lt (α := Int) (rd (.int .i64) l ((i - 1 : Nat) : Int)) (rd (.int .i64) l (i : Int)) := by
  refine ⟨?_, fun c => h ⟨h1, fun _ => c⟩⟩
  rcases Nat.eq_zero_or_pos i with hi | hi
  · exact absurd ⟨h1, fun h' => by omega⟩ h
  · exact hi
theorem asc_ev (l : List Int) (lo hi : Int) (hl : l.length ≤ 1048576) : ∃ r, Ev (fun k => impl_ascending k l lo hi) r ∧ (r = true ↔ ascP l lo hi) := by
  obtain ⟨r, er, hr⟩ := loop_allR (R := fun i v => E2 (fun k m => impl_ascending.l0 k m l lo hi l ((List.length l : Nat) : Int) i) v) (n := l.length) (QA lo hi l) true (E2.eq (fun k m => impl_ascending.l0_eq k m l lo hi l _ _) (E2.neg (by omega) E2.ret)) (fun i hi' hq v e => by
    obtain ⟨h1, h2⟩ := hq
    refine E2.eq (fun k m => impl_ascending.l0_eq k m l lo hi l _ _) (E2.pos (by omega) (E2.pos (by omega) (E2.pos (by omega) (E2.bind (inRange_ev _ _ _) (E2.neg (by simpa using h1) ?_)))))
    simp only [wrapS (show i < 9223372036854775807 by omega)]
    by_cases c : 0 < i
    · refine E2.pos (by omega) ?_
      simp only [wrapP c (show i < 9223372036854775807 by omega)]
      have := h2 c
      exact E2.pos (by omega) (E2.pos (by omega) (E2.neg (by omega) e))
    · exact E2.neg (by omega) e) (fun i hi' hq => by
    refine E2.eq (fun k m => impl_ascending.l0_eq k m l lo hi l _ _) (E2.pos (by omega) (E2.pos (by omega) (E2.pos (by omega) (E2.bind (inRange_ev _ _ _) ?_))))
    by_cases h1 : LE.le (α := Int) lo (rd (.int .i64) l (i : Int)) ∧ LE.le (α := Int) (rd (.int .i64) l (i : Int)) hi
    · obtain ⟨c, c1⟩ := notA hq h1
      refine E2.neg (by simpa using h1) (E2.pos (by omega) ?_)
      simp only [wrapP c (show i < 9223372036854775807 by omega)]
      exact E2.pos (by omega) (E2.pos (by omega) (E2.pos (by omega) E2.ret))
    · exact E2.pos (by simp only [decide_eq_true_eq]; exact h1) E2.ret)
  exact ⟨r, Ev.eq (fun k => impl_ascending_eq k l lo hi) (Ev.loop (f := fun k m => impl_ascending.l0 k m l lo hi l ((List.length l : Nat) : Int) 0) er), hr.trans ⟨fun h => h.1, fun h => ⟨h, rfl⟩⟩⟩
theorem Ev.uniq {α : Type} {f : Nat → Option α} {a b : α} (h : Ev f a) (k : Ev f b) : a = b := by
  obtain ⟨K, h⟩ := h
  obtain ⟨M, k⟩ := k
  have h1 := h (max K M) (by omega)
  rw [k (max K M) (by omega)] at h1
  exact (Option.some.inj h1).symm
/-- A cursor over bytes. -/
def CurOk (c : DT66) : Prop := c.1.length ≤ 1048576 ∧ (0 : Int) ≤ c.2.1 ∧ (c.2.1 : Int) ≤ ((c.1.length : Nat) : Int)
/-- What is drawn. -/
def Dr {α : Type} (f : Nat → DT66 → Option (α × DT66)) (P : α → Prop) : Prop := ∀ c, CurOk c → ∃ x c', CurOk c' ∧ P x ∧ Ev (fun k => f k c) (x, c')
theorem and255 (a : BitVec (IntKind.bits .i64)) : 0 ≤ IntKind.wrap .i64 (((a &&& BitVec.ofInt (IntKind.bits .i64) 255).toNat : Nat)) ∧ IntKind.wrap .i64 (((a &&& BitVec.ofInt (IntKind.bits .i64) 255).toNat : Nat)) ≤ 255 := by
  have h : (a &&& BitVec.ofInt (IntKind.bits .i64) 255).toNat ≤ 255 := by
    rw [BitVec.toNat_and]
    exact Nat.le_trans Nat.and_le_right (by decide)
  rw [IntKind.wrap_i64]
  omega
theorem l1Byte_dr : Dr (fun k c => spec_l1Byte k c) (fun x => 0 ≤ x ∧ x ≤ 255) := by
  intro c h
  obtain ⟨h1, h2, h3⟩ := h
  by_cases q : (c.2.1 : Int) < ((List.length c.1 : Nat) : Int)
  · refine ⟨_, (c.1, (IntKind.wrap .i64 (c.2.1 + 1), (IntKind.wrap .i64 ((IntKind.wrap .i64 (c.2.2.1 * 6364136223846793005)) + 1442695040888963407), ()))), ⟨h1, ?_, ?_⟩, and255 _, Ev.eq (fun k => spec_l1Byte_eq k c) (Ev.neg (by omega) (Ev.neg (by omega) (Ev.pos q (Ev.pos h2 (Ev.pos q Ev.ret)))))⟩
    · show (0 : Int) ≤ IntKind.wrap .i64 (c.2.1 + 1)
      rw [wrapI (by omega) (by omega)]
      omega
    · show IntKind.wrap .i64 (c.2.1 + 1) ≤ ((List.length c.1 : Nat) : Int)
      rw [wrapI (by omega) (by omega)]
      omega
  · exact ⟨_, (c.1, (c.2.1, (IntKind.wrap .i64 ((IntKind.wrap .i64 (c.2.2.1 * 6364136223846793005)) + 1442695040888963407), ()))), ⟨h1, h2, h3⟩, and255 _, Ev.eq (fun k => spec_l1Byte_eq k c) (Ev.neg (by omega) (Ev.neg (by omega) (Ev.neg q Ev.ret)))⟩
theorem l1Below_dr (n : Int) : Dr (fun k c => spec_l1Below k c n) (fun x => 0 ≤ x ∧ (0 < n → x < n) ∧ (n ≤ 0 → x = 0)) := by
  intro c h
  by_cases q : n ≤ 0
  · exact ⟨0, c, h, ⟨by omega, fun h => by omega, fun _ => rfl⟩, Ev.eq (fun k => spec_l1Below_eq k c n) (Ev.pos q Ev.ret)⟩
  · obtain ⟨x, c1, h1, hx, e1⟩ := l1Byte_dr c h
    have hm : ∀ y : Int, 0 ≤ y → 0 ≤ Int.tmod y n ∧ (0 < n → Int.tmod y n < n) ∧ (n ≤ 0 → Int.tmod y n = 0) := fun y hy => ⟨Int.tmod_nonneg _ hy, fun hn => Int.tmod_lt_of_pos _ hn, fun h => absurd h q⟩
    by_cases q2 : n ≤ 256
    · exact ⟨Int.tmod x n, c1, h1, hm x hx.1, Ev.eq (fun k => spec_l1Below_eq k c n) (Ev.neg q (Ev.pos q2 (Ev.bind e1 (Ev.neg (by omega) Ev.ret))))⟩
    · obtain ⟨y, c2, h2, hy, e2⟩ := l1Byte_dr c1 h1
      obtain ⟨z, c3, h3, hz, e3⟩ := l1Byte_dr c2 h2
      refine ⟨_, c3, h3, hm _ ?_, Ev.eq (fun k => spec_l1Below_eq k c n) (Ev.neg q (Ev.neg q2 (Ev.bind e1 (Ev.bind e2 (Ev.bind e3 (Ev.neg (by omega) Ev.ret))))))⟩
      rw [wrapI (n := x * 65536) (by omega) (by omega), wrapI (n := y * 256) (by omega) (by omega), wrapI (n := x * 65536 + y * 256) (by omega) (by omega), wrapI (by omega) (by omega)]
      omega
theorem l1Once_dr (n : Int) : Dr (fun k c => spec_l1Once k c n) (fun _ => True) := by
  intro c h
  obtain ⟨x, c1, h1, _, e1⟩ := l1Below_dr n c h
  exact ⟨_, c1, h1, trivial, Ev.eq (fun k => spec_l1Once_eq k c n) (Ev.bind e1 Ev.ret)⟩
theorem l1Int_dr (l : List Int) (hl : 0 < l.length) : Dr (fun k c => spec_l1Int k c l) (fun _ => True) := by
  intro c h
  obtain ⟨x, c1, h1, ⟨h2, h3, _⟩, e1⟩ := l1Below_dr ((List.length l : Nat) : Int) c h
  exact ⟨_, c1, h1, trivial, Ev.eq (fun k => spec_l1Int_eq k c l) (Ev.bind e1 (Ev.pos h2 (Ev.pos (h3 (by omega)) Ev.ret)))⟩
theorem setAt_len {t : Ty} {l : List t.den} {i : Int} {f : t.den → t.den} : (setAt t l i f).length = l.length := by unfold setAt; simp
theorem l1New_ev (code : List Int) (hc : code.length ≤ 1048576) : ∃ c : DT66, CurOk c ∧ Ev (fun k => spec_l1New k code) c := by
  have key : ∀ (d i : Nat) (h : Int), i + d = code.length → ∃ c : DT66, CurOk c ∧ E2 (fun k m => spec_l1New.l0 k m code h (i : Int)) c := by
    intro d
    induction d with
    | zero => intro i h hi; exact ⟨(code, (0, (h, ()))), ⟨hc, Int.le_refl 0, by show (0 : Int) ≤ ((List.length code : Nat) : Int); omega⟩, E2.eq (fun k m => spec_l1New.l0_eq k m code _ _) (E2.neg (by omega) E2.ret)⟩
    | succ d ih =>
      intro i h hi
      by_cases q : (i : Int) < 4000
      · obtain ⟨c, hc', e⟩ := ih (i + 1) _ (by omega)
        refine ⟨c, hc', E2.eq (fun k m => spec_l1New.l0_eq k m code _ _) (E2.pos (by omega) (E2.pos q (E2.pos (by omega) (E2.pos (by omega) ?_))))⟩
        simp only [wrapS (show i < 9223372036854775807 by omega)]
        exact e
      · exact ⟨(code, (0, (h, ()))), ⟨hc, Int.le_refl 0, by show (0 : Int) ≤ ((List.length code : Nat) : Int); omega⟩, E2.eq (fun k m => spec_l1New.l0_eq k m code _ _) (E2.pos (by omega) (E2.neg q E2.ret))⟩
  obtain ⟨c, hc', e⟩ := key code.length 0 (IntKind.wrap .i64 (193017 + ((List.length code : Nat) : Int))) (by omega)
  exact ⟨c, hc', Ev.eq (fun k => spec_l1New_eq k code) (Ev.loop (f := fun k m => spec_l1New.l0 k m code (IntKind.wrap .i64 (193017 + ((List.length code : Nat) : Int))) 0) e)⟩
theorem loop_cnt {t : Ty} {l : List t.den} {R : Int → Int → Int → Prop} (p : t.den → Bool) (g : Int → Int) (B : Int) (hend : ∀ n, 0 ≤ n → n ≤ B + (l.length : Int) → R n (l.length : Int) (g n))
    (hyes : ∀ (i : Nat) n, i < l.length → p (rd t l (i : Int)) = true → 0 ≤ n → n ≤ B + (i : Int) → ∀ v, R (n + 1) ((i + 1 : Nat) : Int) v → R n (i : Int) v) (hno : ∀ (i : Nat) n, i < l.length → p (rd t l (i : Int)) = false → 0 ≤ n → n ≤ B + (i : Int) → ∀ v, R n ((i + 1 : Nat) : Int) v → R n (i : Int) v) (n : Int) (h0 : 0 ≤ n) (hB : n ≤ B) :
    R n 0 (g (n + ((l.countP p : Nat) : Int))) := by
  have key : ∀ (d i : Nat) (n : Int), i + d = l.length → 0 ≤ n → n ≤ B + (i : Int) → R n (i : Int) (g (n + (((l.drop i).countP p : Nat) : Int))) := by
    intro d
    induction d with
    | zero =>
      intro i n hi h1 h2
      obtain rfl : i = l.length := by omega
      rw [List.drop_length]
      have := hend n h1 h2
      simpa using this
    | succ d ih =>
      intro i n hi h1 h2
      have hlt : i < l.length := by omega
      have hd : l.drop i = rd t l (i : Int) :: l.drop (i + 1) := by rw [rd_at hlt]; exact List.drop_eq_getElem_cons hlt
      rw [hd, List.countP_cons]
      cases hp : p (rd t l (i : Int)) with
      | true =>
        refine hyes i n hlt hp h1 h2 _ ?_
        have := ih (i + 1) (n + 1) (by omega) (by omega) (by omega)
        rw [show n + (((l.drop (i + 1)).countP p + if true = true then 1 else 0 : Nat) : Int) = n + 1 + (((l.drop (i + 1)).countP p : Nat) : Int) by simp; omega]
        exact this
      | false =>
        refine hno i n hlt hp h1 h2 _ ?_
        have := ih (i + 1) n (by omega) (by omega) (by omega)
        simpa using this
  exact key l.length 0 n (by omega) h0 (by simpa using hB)
def lackC (a b : List Int) : Int := ((a.countP (fun x => !decide (x ∈ b)) : Nat) : Int)
theorem lackC_le (a b : List Int) : 0 ≤ lackC a b ∧ lackC a b ≤ (a.length : Int) := by
  unfold lackC
  have := List.countP_le_length (p := fun x => !decide (x ∈ b)) (l := a)
  omega
def movesP (a b : DT31) : Int := lackC a.2.1 b.2.1 + lackC b.2.1 a.2.1
theorem movesP_le {a b : DT31} (ha : a.2.1.length ≤ 1048576) (hb : b.2.1.length ≤ 1048576) : 0 ≤ movesP a b ∧ movesP a b ≤ 2097152 := by
  have h1 := lackC_le a.2.1 b.2.1
  have h2 := lackC_le b.2.1 a.2.1
  unfold movesP
  omega
theorem lacking_ev (a b : List Int) (ha : a.length ≤ 1048576) (hb : b.length ≤ 1048576) : Ev (fun k => impl_lacking k a b) (lackC a b) := by
  have e := loop_cnt (t := .int .i64) (l := a) (R := fun n i v => E2 (fun k m => impl_lacking.l0 k m b n a ((List.length a : Nat) : Int) i) v) (fun x => !decide (x ∈ b)) id 0 (fun n h1 h2 => E2.eq (fun k m => impl_lacking.l0_eq k m b n a _ _) (E2.neg (by omega) E2.ret))
    (fun i n hi hp h1 h2 v e => by
      refine E2.eq (fun k m => impl_lacking.l0_eq k m b n a _ _) (E2.pos (by omega) (E2.pos (by omega) (E2.pos (by omega) (E2.bind (contains_ev _ _ hb) (E2.pos (by simpa using hp) ?_)))))
      simp only [wrapS (show i < 9223372036854775807 by omega), wrapI (show -9223372036854775808 ≤ n + 1 by omega) (show n + 1 ≤ 9223372036854775807 by omega)]
      exact e)
    (fun i n hi hp h1 h2 v e => by
      refine E2.eq (fun k m => impl_lacking.l0_eq k m b n a _ _) (E2.pos (by omega) (E2.pos (by omega) (E2.pos (by omega) (E2.bind (contains_ev _ _ hb) (E2.neg (by simpa using hp) ?_)))))
      simp only [wrapS (show i < 9223372036854775807 by omega)]
      exact e) 0 (by omega) (by omega)
  refine (Ev.eq (fun k => impl_lacking_eq k a b) (Ev.loop (f := fun k m => impl_lacking.l0 k m b 0 a ((List.length a : Nat) : Int) 0) e)).val ?_
  show (0 : Int) + _ = _
  rw [Int.zero_add]
  rfl
theorem implMoves_ev (a b : DT31) (ha : a.2.1.length ≤ 1048576) (hb : b.2.1.length ≤ 1048576) : Ev (fun k => impl_Moves k a b) (movesP a b) := by
  have h := movesP_le ha hb
  unfold movesP at h ⊢
  refine Ev.eq (fun k => impl_Moves_eq k a b) (Ev.bind (lacking_ev _ _ ha hb) (Ev.bind (lacking_ev _ _ hb ha) (Ev.ret.val ?_)))
  exact wrapI (by omega) (by omega)
theorem specMoves_ev (a b : DT31) (ha : a.2.1.length ≤ 1048576) (hb : b.2.1.length ≤ 1048576) : Ev (fun k => spec_Moves k a b) (movesP a b) := by
  have e1 := fun (i6 : Int) (n : Int) (h0 : 0 ≤ n) (hn : n ≤ 1048576) => loop_cnt (t := .int .i64) (l := b.2.1) (R := fun n i v => E2 (fun k m => spec_Moves.l1 k m n i6 i a.1 a.2.1 b.1 b.2.1) v) (fun x => !decide (x ∈ a.2.1)) id 1048576 (fun n h1 h2 => E2.eq (fun k m => spec_Moves.l1_eq k m n i6 _ _ _ _ _) (E2.neg (by omega) E2.ret))
    (fun i n hi hp h1 h2 v e => by
      refine E2.eq (fun k m => spec_Moves.l1_eq k m n i6 _ _ _ _ _) (E2.pos (by omega) (E2.pos (by omega) (E2.pos (by omega) (E2.bind (has_ev _ _ ha) (E2.pos (by simpa using hp) ?_)))))
      simp only [wrapS (show i < 9223372036854775807 by omega), wrapI (show -9223372036854775808 ≤ n + 1 by omega) (show n + 1 ≤ 9223372036854775807 by omega)]
      exact e)
    (fun i n hi hp h1 h2 v e => by
      refine E2.eq (fun k m => spec_Moves.l1_eq k m n i6 _ _ _ _ _) (E2.pos (by omega) (E2.pos (by omega) (E2.pos (by omega) (E2.bind (has_ev _ _ ha) (E2.neg (by simpa using hp) ?_)))))
      simp only [wrapS (show i < 9223372036854775807 by omega)]
      exact e) n h0 hn
  have e := loop_cnt (t := .int .i64) (l := a.2.1) (R := fun n i v => E2 (fun k m => spec_Moves.l0 k m n i a.1 a.2.1 b.1 b.2.1) v) (fun x => !decide (x ∈ b.2.1)) (fun n => n + lackC b.2.1 a.2.1) 0 (fun n h1 h2 => E2.eq (fun k m => spec_Moves.l0_eq k m n _ _ _ _ _) (E2.neg (by omega) (E2.of (Ev.loop (f := fun k m => spec_Moves.l1 k m n _ 0 a.1 a.2.1 b.1 b.2.1) (e1 _ n h1 (by omega))))))
    (fun i n hi hp h1 h2 v e => by
      refine E2.eq (fun k m => spec_Moves.l0_eq k m n _ _ _ _ _) (E2.pos (by omega) (E2.pos (by omega) (E2.pos (by omega) (E2.bind (has_ev _ _ hb) (E2.pos (by simpa using hp) ?_)))))
      simp only [wrapS (show i < 9223372036854775807 by omega), wrapI (show -9223372036854775808 ≤ n + 1 by omega) (show n + 1 ≤ 9223372036854775807 by omega)]
      exact e)
    (fun i n hi hp h1 h2 v e => by
      refine E2.eq (fun k m => spec_Moves.l0_eq k m n _ _ _ _ _) (E2.pos (by omega) (E2.pos (by omega) (E2.pos (by omega) (E2.bind (has_ev _ _ hb) (E2.neg (by simpa using hp) ?_)))))
      simp only [wrapS (show i < 9223372036854775807 by omega)]
      exact e) 0 (by omega) (by omega)
  refine (Ev.eq (fun k => spec_Moves_eq k a b) (Ev.loop (f := fun k m => spec_Moves.l0 k m 0 0 a.1 a.2.1 b.1 b.2.1) e)).val ?_
  show (0 : Int) + _ + _ = _
  rw [Int.zero_add]
  rfl
theorem ids_ev (l : List Int) (hl : l.length ≤ 1048576) : ∃ r, Ev (fun k => spec_l30Ids k l) r ∧ (r = true ↔ ascP l 1 99) := by
  obtain ⟨r, er, hr⟩ := loop_allR (R := fun i v => E2 (fun k m => spec_l30Ids.l0 k m l i) v) (n := l.length) (QA 1 99 l) true (E2.eq (fun k m => spec_l30Ids.l0_eq k m l _) (E2.neg (by omega) E2.ret)) (fun i hi' hq v e => by
    obtain ⟨h1, h2⟩ := hq
    refine E2.eq (fun k m => spec_l30Ids.l0_eq k m l _) (E2.pos (by omega) (E2.pos (by omega) (E2.pos (by omega) (E2.bind (l1In_ev _ _ _) (E2.neg (by simpa using h1) ?_)))))
    simp only [wrapS (show i < 9223372036854775807 by omega)]
    by_cases c : 0 < i
    · refine E2.pos (by omega) ?_
      simp only [wrapP c (show i < 9223372036854775807 by omega)]
      have := h2 c
      exact E2.pos (by omega) (E2.pos (by omega) (E2.pos (by omega) (E2.pos (by omega) (E2.neg (by omega) e))))
    · exact E2.neg (by omega) e) (fun i hi' hq => by
    refine E2.eq (fun k m => spec_l30Ids.l0_eq k m l _) (E2.pos (by omega) (E2.pos (by omega) (E2.pos (by omega) (E2.bind (l1In_ev _ _ _) ?_))))
    by_cases h1 : LE.le (α := Int) 1 (rd (.int .i64) l (i : Int)) ∧ LE.le (α := Int) (rd (.int .i64) l (i : Int)) 99
    · obtain ⟨c, c1⟩ := notA hq h1
      refine E2.neg (by simpa using h1) (E2.pos (by omega) ?_)
      simp only [wrapP c (show i < 9223372036854775807 by omega)]
      exact E2.pos (by omega) (E2.pos (by omega) (E2.pos (by omega) (E2.pos (by omega) (E2.pos (by omega) E2.ret))))
    · exact E2.pos (by simp only [decide_eq_true_eq]; exact h1) E2.ret)
  exact ⟨r, Ev.eq (fun k => spec_l30Ids_eq k l) (Ev.loop (f := fun k m => spec_l30Ids.l0 k m l 0) er), hr.trans ⟨fun h => h.1, fun h => ⟨h, rfl⟩⟩⟩
def workP (w : DT31) : Prop := (1 ≤ (w.1 : Int) ∧ (w.1 : Int) ≤ 10000000) ∧ ascP w.2.1 1 99
def worksP (l : List DT31) : Prop := (∀ i : Nat, i < l.length → workP (rd T31 l (i : Int))) ∧ l.length ≤ 6
def SmW (l : List DT31) : Prop := l.length ≤ 1048576 ∧ ∀ i : Nat, i < l.length → (rd T31 l (i : Int)).2.1.length ≤ 1048576
theorem implWork_ev (w : DT31) (h : w.2.1.length ≤ 1048576) : ∃ r, Ev (fun k => impl_AreWorks_1 k w) r ∧ (r = true ↔ ¬ workP w) := by
  obtain ⟨a, ea, ha⟩ := asc_ev w.2.1 1 99 h
  by_cases c : 1 ≤ (w.1 : Int) ∧ (w.1 : Int) ≤ 10000000
  · refine ⟨decide (¬ a = true), Ev.eq (fun k => impl_AreWorks_1_eq k w) (Ev.bind (inRange_ev _ _ _) (Ev.neg (by simpa using c) (Ev.bind ea Ev.ret))), ?_⟩
    unfold workP
    rw [decide_eq_true_eq, ha]
    exact ⟨fun h1 h2 => h1 h2.2, fun h1 h2 => h1 ⟨c, h2⟩⟩
  · refine ⟨true, Ev.eq (fun k => impl_AreWorks_1_eq k w) (Ev.bind (inRange_ev _ _ _) (Ev.pos (by simp only [decide_eq_true_eq]; exact c) Ev.ret)), ?_⟩
    exact ⟨fun _ h2 => c h2.1, fun _ => rfl⟩
noncomputable def badW (l : List DT31) (i : Nat) : Bool := @decide (¬ workP (rd T31 l (i : Int))) (Classical.propDecidable _)
theorem badW_iff (l : List DT31) (i : Nat) : badW l i = true ↔ ¬ workP (rd T31 l (i : Int)) := by
  unfold badW
  exact @decide_eq_true_iff _ (Classical.propDecidable _)
theorem implWorks_ev (l : List DT31) (hs : SmW l) : ∃ r, Ev (fun k => impl_AreWorks k l) r ∧ (r = true ↔ worksP l) := by
  have hl := hs.1
  have er := loop_firstR (R := fun i v => E2 (fun k m => slices_IndexFunc_impl_Work_31.l0 k m l ((List.length l : Nat) : Int) i) v) (n := l.length) (badW l) (E2.eq (fun k m => slices_IndexFunc_impl_Work_31.l0_eq k m l _ _) (E2.neg (by omega) E2.ret)) (fun i hi hq v e => by
    obtain ⟨r, h1, h2⟩ := implWork_ev (rd T31 l (i : Int)) (hs.2 i hi)
    have hr : r = false := by
      cases r with
      | false => rfl
      | true => have := (badW_iff l i).2 (h2.1 rfl); rw [hq] at this; cases this
    subst hr
    refine E2.eq (fun k m => slices_IndexFunc_impl_Work_31.l0_eq k m l _ _) (E2.pos (by omega) (E2.pos (by omega) (E2.pos (by omega) (E2.bind h1 (E2.neg (by simp) ?_)))))
    simp only [wrapS (show i < 9223372036854775807 by omega)]; exact e) (fun i hi hq => by
    obtain ⟨r, h1, h2⟩ := implWork_ev (rd T31 l (i : Int)) (hs.2 i hi)
    have hr : r = true := h2.2 ((badW_iff l i).1 hq)
    subst hr
    exact E2.eq (fun k m => slices_IndexFunc_impl_Work_31.l0_eq k m l _ _) (E2.pos (by omega) (E2.pos (by omega) (E2.pos (by omega) (E2.bind h1 (E2.pos rfl E2.ret))))))
  have e1 : Ev (fun k => slices_IndexFunc_impl_Work_31 k l) (firstI (badW l) l.length) := Ev.eq (fun k => slices_IndexFunc_impl_Work_31_eq k l) (Ev.loop (f := fun k m => slices_IndexFunc_impl_Work_31.l0 k m l ((List.length l : Nat) : Int) 0) er)
  have e2 : Ev (fun k => slices_ContainsFunc_impl_Work_31 k l) (decide (0 ≤ firstI (badW l) l.length)) := Ev.eq (fun k => slices_ContainsFunc_impl_Work_31_eq k l) (Ev.bind e1 Ev.ret)
  by_cases c : l.length ≤ 6
  · refine ⟨_, Ev.eq (fun k => impl_AreWorks_eq k l) (Ev.pos (by omega) (Ev.bind e2 Ev.ret)), ?_⟩
    rw [decide_eq_true_eq, decide_eq_true_eq, firstI_nonneg]
    unfold worksP
    constructor
    · intro h
      refine ⟨fun i hi => Classical.byContradiction fun h' => h ⟨i, hi, (badW_iff l i).2 h'⟩, c⟩
    · rintro ⟨h, _⟩ ⟨i, hi, h'⟩
      exact (badW_iff l i).1 h' (h i hi)
  · refine ⟨false, Ev.eq (fun k => impl_AreWorks_eq k l) (Ev.neg (by omega) Ev.ret), ?_⟩
    exact ⟨fun h => by (cases h), fun h => absurd h.2 c⟩
theorem specWorks_ev (l : List DT31) (hs : SmW l) : ∃ r, Ev (fun k => spec_AreWorks k l) r ∧ (r = true ↔ worksP l) := by
  have hl := hs.1
  obtain ⟨r, er, hr⟩ := loop_allR (R := fun i v => E2 (fun k m => spec_AreWorks.l0 k m l i) v) (n := l.length) (fun i => workP (rd T31 l (i : Int))) (decide (((l.length : Nat) : Int) ≤ 6)) (E2.eq (fun k m => spec_AreWorks.l0_eq k m l _) (E2.neg (by omega) E2.ret)) (fun i hi hq v e => by
    obtain ⟨h1, h2⟩ := hq
    obtain ⟨r, e1, h3⟩ := ids_ev (rd T31 l (i : Int)).2.1 (hs.2 i hi)
    refine E2.eq (fun k m => spec_AreWorks.l0_eq k m l _) (E2.pos (by omega) (E2.pos (by omega) (E2.pos (by omega) (E2.bind (l1In_ev _ _ _) (E2.neg (by simpa using h1) (E2.pos (by omega) (E2.pos (by omega) (E2.bind e1 (E2.neg (by simpa using h3.2 h2) ?_)))))))))
    simp only [wrapS (show i < 9223372036854775807 by omega)]
    exact e) (fun i hi hq => by
    obtain ⟨r, e1, h3⟩ := ids_ev (rd T31 l (i : Int)).2.1 (hs.2 i hi)
    refine E2.eq (fun k m => spec_AreWorks.l0_eq k m l _) (E2.pos (by omega) (E2.pos (by omega) (E2.pos (by omega) (E2.bind (l1In_ev _ _ _) ?_))))
    by_cases h1 : LE.le (α := Int) 1 (rd T31 l (i : Int)).1 ∧ LE.le (α := Int) (rd T31 l (i : Int)).1 10000000
    · exact E2.neg (by simpa using h1) (E2.pos (by omega) (E2.pos (by omega) (E2.bind e1 (E2.pos (fun c => hq ⟨h1, h3.1 c⟩) E2.ret))))
    · exact E2.pos (by simp only [decide_eq_true_eq]; exact h1) E2.ret)
  refine ⟨r, Ev.eq (fun k => spec_AreWorks_eq k l) (Ev.loop (f := fun k m => spec_AreWorks.l0 k m l 0) er), hr.trans ?_⟩
  rw [decide_eq_true_eq]
  unfold worksP
  exact ⟨fun h => ⟨h.1, by omega⟩, fun h => ⟨h.1, by omega⟩⟩
def costGo (l : List DT31) (t : List Int) : Nat → Nat → Int → Int
  | 0, _, n => n
  | d + 1, i, n => if ¬ (LE.le (α := Int) 0 (rd (.int .i64) t (i : Int)) ∧ LE.le (α := Int) (rd (.int .i64) t (i : Int)) ((l.length : Int) - 1)) then -1 else if (rd (.int .i64) t (i : Int) : Int) ∈ t.take i then -1 else
      if 0 < i then costGo l t d (i + 1) (n + movesP (rd T31 l (rd (.int .i64) t ((i - 1 : Nat) : Int))) (rd T31 l (rd (.int .i64) t (i : Int)))) else costGo l t d (i + 1) n
noncomputable def costP (l : List DT31) (t : List Int) : Int := @ite _ (worksP l ∧ t.length = l.length) (Classical.propDecidable _) (costGo l t t.length 0 0) (-1)
def inR (l : List DT31) (x : Int) : Prop := 0 ≤ x ∧ x < (l.length : Int)
theorem smW_rd {l : List DT31} (hs : SmW l) {x : Int} (h : inR l x) : (rd T31 l x).2.1.length ≤ 1048576 := by
  obtain ⟨i, rfl⟩ : ∃ i : Nat, x = (i : Int) := ⟨x.toNat, by have := h.1; omega⟩
  exact hs.2 i (by have := h.2; omega)
theorem costP_of {l : List DT31} {t : List Int} (h : worksP l) (ht : t.length = l.length) : costP l t = costGo l t t.length 0 0 := by
  unfold costP
  exact @if_pos _ (Classical.propDecidable _) ⟨h, ht⟩ _ _ _
theorem costP_not {l : List DT31} {t : List Int} (h : ¬ (worksP l ∧ t.length = l.length)) : costP l t = -1 := by
  unfold costP
  exact @if_neg _ (Classical.propDecidable _) h _ _ _
theorem implCost_ev (l : List DT31) (t : List Int) (hs : SmW l) (ht : t.length ≤ 1048576) : Ev (fun k => impl_OrderCost k l t) (costP l t) := by
  have hl := hs.1
  obtain ⟨r, er, hr⟩ := implWorks_ev l hs
  have key : ∀ (d i : Nat) (n : Int), i + d = t.length → (∀ j : Nat, j < i → inR l (rd (.int .i64) t (j : Int))) → 0 ≤ n → n ≤ 2097152 * (i : Int) → E2 (fun k m => impl_OrderCost.l0 k m l t n t ((List.length t : Nat) : Int) (i : Int)) (costGo l t d i n) := by
    intro d
    induction d with
    | zero => intro i n hi hj h1 h2; exact E2.eq (fun k m => impl_OrderCost.l0_eq k m l t n t _ _) (E2.neg (by omega) E2.ret)
    | succ d ih =>
      intro i n hi hj h1 h2
      unfold costGo
      refine E2.eq (fun k m => impl_OrderCost.l0_eq k m l t n t _ _) (E2.pos (by omega) (E2.pos (by omega) (E2.pos (by omega) ?_)))
      simp only [wrapI (show -9223372036854775808 ≤ ((l.length : Nat) : Int) - 1 by omega) (show ((l.length : Nat) : Int) - 1 ≤ 9223372036854775807 by omega), Int.toNat_natCast, Int.toNat_zero, Nat.sub_zero, List.drop_zero]
      refine E2.bind (inRange_ev _ _ _) ?_
      by_cases c1 : LE.le (α := Int) 0 (rd (.int .i64) t (i : Int)) ∧ LE.le (α := Int) (rd (.int .i64) t (i : Int)) ((l.length : Int) - 1)
      · rw [if_neg (by simpa using c1)]
        refine E2.neg (by simpa using c1) (E2.pos (by omega) (E2.pos (by omega) (E2.bind (contains_ev _ _ (by rw [List.length_take]; omega)) ?_)))
        have hin : inR l (rd (.int .i64) t (i : Int)) := ⟨c1.1, by have := c1.2; omega⟩
        have hj' : ∀ j : Nat, j < i + 1 → inR l (rd (.int .i64) t (j : Int)) := fun j hj1 => by
          by_cases h : j = i
          · subst h; exact hin
          · exact hj j (by omega)
        by_cases c2 : (rd (.int .i64) t (i : Int) : Int) ∈ t.take i
        · rw [if_pos c2]
          exact E2.pos (by simpa using c2) E2.ret
        · rw [if_neg c2]
          refine E2.neg (by simpa using c2) ?_
          simp only [wrapS (show i < 9223372036854775807 by omega)]
          by_cases c3 : 0 < i
          · have hp := hj (i - 1) (by omega)
            have hm := movesP_le (smW_rd hs hp) (smW_rd hs hin)
            rw [if_pos c3]
            refine E2.pos (by omega) ?_
            simp only [wrapP c3 (show i < 9223372036854775807 by omega)]
            refine E2.pos (by omega) (E2.pos (by omega) (E2.pos hp.1 (E2.pos hp.2 (E2.pos hin.1 (E2.pos hin.2 (E2.bind (implMoves_ev _ _ (smW_rd hs hp) (smW_rd hs hin)) ?_))))))
            generalize movesP (rd T31 l (rd (.int .i64) t ((i - 1 : Nat) : Int))) (rd T31 l (rd (.int .i64) t (i : Int))) = q at hm ⊢
            simp only [wrapI (show -9223372036854775808 ≤ n + q by omega) (show n + q ≤ 9223372036854775807 by omega)]
            exact ih (i + 1) (n + q) (by omega) hj' (by omega) (by omega)
          · rw [if_neg c3]
            exact E2.neg (by omega) (ih (i + 1) n (by omega) hj' h1 (by omega))
      · rw [if_pos c1]
        exact E2.pos (by simp only [decide_eq_true_eq]; exact c1) E2.ret
  refine Ev.eq (fun k => impl_OrderCost_eq k l t) (Ev.bind er ?_)
  by_cases c : worksP l
  · refine Ev.neg (by simpa using hr.2 c) ?_
    by_cases c2 : t.length = l.length
    · rw [costP_of c c2]
      exact Ev.neg (by omega) (Ev.loop (f := fun k m => impl_OrderCost.l0 k m l t 0 t ((List.length t : Nat) : Int) 0) (key t.length 0 0 (by omega) (fun j hj => absurd hj (by omega)) (by omega) (by omega)))
    · rw [costP_not (fun h => c2 h.2)]
      exact Ev.pos (by omega) Ev.ret
  · rw [costP_not (fun h => c h.1)]
    exact Ev.pos (fun h => c (hr.1 h)) Ev.ret
theorem specCost_ev (l : List DT31) (t : List Int) (hs : SmW l) (ht : t.length ≤ 1048576) : Ev (fun k => spec_OrderCost k l t) (costP l t) := by
  have hl := hs.1
  obtain ⟨r, er, hr⟩ := specWorks_ev l hs
  have key : ∀ (d i : Nat) (n : Int), i + d = t.length → (∀ j : Nat, j < i → inR l (rd (.int .i64) t (j : Int))) → 0 ≤ n → n ≤ 2097152 * (i : Int) → E2 (fun k m => spec_OrderCost.l0 k m l t n (i : Int)) (costGo l t d i n) := by
    intro d
    induction d with
    | zero => intro i n hi hj h1 h2; exact E2.eq (fun k m => spec_OrderCost.l0_eq k m l t n _) (E2.neg (by omega) E2.ret)
    | succ d ih =>
      intro i n hi hj h1 h2
      unfold costGo
      refine E2.eq (fun k m => spec_OrderCost.l0_eq k m l t n _) (E2.pos (by omega) (E2.pos (by omega) (E2.pos (by omega) ?_)))
      simp only [wrapI (show -9223372036854775808 ≤ ((l.length : Nat) : Int) - 1 by omega) (show ((l.length : Nat) : Int) - 1 ≤ 9223372036854775807 by omega), Int.toNat_natCast, Int.toNat_zero, Nat.sub_zero, List.drop_zero]
      refine E2.bind (l1In_ev _ _ _) ?_
      by_cases c1 : LE.le (α := Int) 0 (rd (.int .i64) t (i : Int)) ∧ LE.le (α := Int) (rd (.int .i64) t (i : Int)) ((l.length : Int) - 1)
      · rw [if_neg (by simpa using c1)]
        refine E2.neg (by simpa using c1) (E2.pos (by omega) (E2.pos (by omega) (E2.pos (by omega) (E2.pos (by omega) (E2.bind (has_ev _ _ (by rw [List.length_take]; omega)) ?_)))))
        have hin : inR l (rd (.int .i64) t (i : Int)) := ⟨c1.1, by have := c1.2; omega⟩
        have hj' : ∀ j : Nat, j < i + 1 → inR l (rd (.int .i64) t (j : Int)) := fun j hj1 => by
          by_cases h : j = i
          · subst h; exact hin
          · exact hj j (by omega)
        by_cases c2 : (rd (.int .i64) t (i : Int) : Int) ∈ t.take i
        · rw [if_pos c2]
          exact E2.pos (by simpa using c2) E2.ret
        · rw [if_neg c2]
          refine E2.neg (by simpa using c2) ?_
          simp only [wrapS (show i < 9223372036854775807 by omega)]
          by_cases c3 : 0 < i
          · have hp := hj (i - 1) (by omega)
            have hm := movesP_le (smW_rd hs hp) (smW_rd hs hin)
            rw [if_pos c3]
            refine E2.pos (by omega) ?_
            simp only [wrapP c3 (show i < 9223372036854775807 by omega)]
            refine E2.pos (by omega) (E2.pos (by omega) (E2.pos hp.1 (E2.pos hp.2 (E2.pos (by omega) (E2.pos (by omega) (E2.pos hin.1 (E2.pos hin.2 (E2.bind (specMoves_ev _ _ (smW_rd hs hp) (smW_rd hs hin)) ?_))))))))
            generalize movesP (rd T31 l (rd (.int .i64) t ((i - 1 : Nat) : Int))) (rd T31 l (rd (.int .i64) t (i : Int))) = q at hm ⊢
            simp only [wrapI (show -9223372036854775808 ≤ n + q by omega) (show n + q ≤ 9223372036854775807 by omega)]
            exact ih (i + 1) (n + q) (by omega) hj' (by omega) (by omega)
          · rw [if_neg c3]
            exact E2.neg (by omega) (ih (i + 1) n (by omega) hj' h1 (by omega))
      · rw [if_pos c1]
        exact E2.pos (by simp only [decide_eq_true_eq]; exact c1) E2.ret
  refine Ev.eq (fun k => spec_OrderCost_eq k l t) (Ev.bind er ?_)
  by_cases c : worksP l
  · refine Ev.neg (by simpa using hr.2 c) ?_
    by_cases c2 : t.length = l.length
    · rw [costP_of c c2]
      exact Ev.neg (by omega) (Ev.loop (f := fun k m => spec_OrderCost.l0 k m l t 0 0) (key t.length 0 0 (by omega) (fun j hj => absurd hj (by omega)) (by omega) (by omega)))
    · rw [costP_not (fun h => c2 h.2)]
      exact Ev.pos (by omega) Ev.ret
  · rw [costP_not (fun h => c h.1)]
    exact Ev.pos (fun h => c (hr.1 h)) Ev.ret
/-- An order: its numbers are within range, no number twice. -/
def goodO (l : List DT31) (t : List Int) : Prop := t.Nodup ∧ ∀ x ∈ t, inR l x
theorem costGo_nonneg {l : List DT31} {t : List Int} (hs : SmW l) (hg : goodO l t) : ∀ (d i : Nat) (n : Int), i + d = t.length → 0 ≤ n → 0 ≤ costGo l t d i n := by
  intro d
  induction d with
  | zero => intro i n _ h; exact h
  | succ d ih =>
    intro i n hi h
    have hlt : i < t.length := by omega
    have hr : ∀ j : Nat, j < t.length → inR l (rd (.int .i64) t (j : Int)) := fun j hj => by rw [rd_at hj]; exact hg.2 _ (List.getElem_mem hj)
    have h1 := hr i hlt
    unfold costGo
    rw [if_neg (by have := h1.1; have := h1.2; simp only [Classical.not_not]; exact ⟨h1.1, by omega⟩), if_neg (by
      rw [rd_at hlt]
      intro hm
      obtain ⟨j, hj, he⟩ := List.mem_iff_getElem.1 hm
      rw [List.getElem_take] at he
      have hj2 : j < i := by rw [List.length_take] at hj; omega
      have := (List.getElem_inj hg.1).1 he
      omega)]
    by_cases c : 0 < i
    · rw [if_pos c]
      have := movesP_le (smW_rd hs (hr (i - 1) (by omega))) (smW_rd hs h1)
      exact ih (i + 1) _ (by omega) (by omega)
    · rw [if_neg c]
      exact ih (i + 1) _ (by omega) h
theorem costP_nonneg {l : List DT31} {t : List Int} (hs : SmW l) (hw : worksP l) (hg : goodO l t) (ht : t.length = l.length) : 0 ≤ costP l t := by
  rw [costP_of hw ht]
  exact costGo_nonneg hs hg _ _ _ (by omega) (Int.le_refl _)
/-- What is kept on the way: no order yet, or an order with its cost. -/
def keptB (l : List DT31) (s : List Int × Int) : Prop := (s.2 < 0 ∧ s.1 = []) ∨ (s.1.length = l.length ∧ s.2 = costP l s.1 ∧ 0 ≤ s.2 ∧ goodO l s.1)
theorem goodO_snoc {l : List DT31} {t : List Int} {i : Nat} (h : goodO l t) (hi : i < l.length) (hn : ((i : Int)) ∉ t) : goodO l (t ++ [(i : Int)]) := by
  refine ⟨?_, fun x hx => ?_⟩
  · rw [List.nodup_append]
    refine ⟨h.1, by simp, fun a ha b hb => ?_⟩
    have : b = (i : Int) := by simpa using hb
    rw [this]
    exact fun e => hn (e ▸ ha)
  · rcases List.mem_append.1 hx with h1 | h1
    · exact h.2 x h1
    · have : x = (i : Int) := by simpa using h1
      rw [this]
      exact ⟨by omega, by omega⟩
theorem best_kept {l : List DT31} (hs : SmW l) (hw : worksP l) : ∀ (d : Nat) (t : List Int) (s : List Int × Int), t.length + d = l.length → goodO l t → keptB l s → keptB l (bestN (costP l) l.length d s t) := by
  intro d
  induction d with
  | zero =>
    intro t s ht hg hk
    unfold bestN
    split
    · exact .inr ⟨by omega, rfl, costP_nonneg hs hw hg (by omega), hg⟩
    · exact hk
  | succ d ih =>
    intro t s ht hg hk
    show keptB l (bestGo (fun s t => bestN (costP l) l.length d s t) l.length t l.length s)
    have key : ∀ (e i : Nat) (s : List Int × Int), i + e = l.length → keptB l s → keptB l (bestGo (fun s t => bestN (costP l) l.length d s t) l.length t (l.length - i) s) := by
      intro e
      induction e with
      | zero => intro i s hi hk; rw [show l.length - i = 0 by omega]; exact hk
      | succ e ihe =>
        intro i s hi hk
        rw [bestGo_step (by omega)]
        split
        · exact ihe (i + 1) s (by omega) hk
        · rename_i hn
          exact ihe (i + 1) _ (by omega) (ih _ s (by simp; omega) (goodO_snoc hg (by omega) (by simpa using hn)) hk)
    have := key l.length 0 s (by omega) hk
    rwa [Nat.sub_zero] at this
theorem specTry_ev {l : List DT31} (hs : SmW l) (hw : worksP l) (hp : 0 < l.length) : ∀ (d : Nat) (t : List Int) (s : List Int × Int), t.length + d = l.length → goodO l t → keptB l s → Ev (fun k => spec_l38Try k l t s.1) (bestN (costP l) l.length d s t).1 := by
  have hl := hs.1
  intro d
  induction d with
  | zero =>
    intro t s ht hg hk
    refine Ev.eq (fun k => spec_l38Try_eq k l t s.1) (Ev.pos (by omega) ?_)
    have y : s.2 < 0 ∨ costP l t < s.2 → (bestN (costP l) l.length 0 s t) = (t, costP l t) := fun h => by unfold bestN; exact if_pos h
    have n : ¬ (s.2 < 0 ∨ costP l t < s.2) → (bestN (costP l) l.length 0 s t) = s := fun h => by unfold bestN; exact if_neg h
    rcases hk with ⟨h1, h2⟩ | ⟨h1, h2, h3, h4⟩
    · rw [y (.inl h1), h2]
      exact Ev.pos (by simp only [List.length_nil]; omega) (Ev.pos (by simp only [List.length_nil]; omega) (Ev.ret.val (List.nil_append t)))
    · refine Ev.neg (by omega) (Ev.bind (specCost_ev l t hs (by omega)) (Ev.bind (specCost_ev l s.1 hs (by omega)) ?_))
      rw [← h2]
      by_cases c : costP l t < s.2
      · rw [y (.inr c)]
        exact Ev.pos c (Ev.pos (by simp only [List.length_nil]; omega) (Ev.ret.val (List.nil_append t)))
      · rw [n (fun h => by rcases h with h | h <;> omega)]
        exact Ev.neg c Ev.ret
  | succ d ih =>
    intro t s ht hg hk
    refine Ev.eq (fun k => spec_l38Try_eq k l t s.1) (Ev.neg (by omega) ?_)
    have key : ∀ (e i : Nat) (s : List Int × Int), i + e = l.length → keptB l s → E2 (fun k m => spec_l38Try.l0 k m l t (i : Int) s.1) (bestGo (fun s t => bestN (costP l) l.length d s t) l.length t (l.length - i) s).1 := by
      intro e
      induction e with
      | zero =>
        intro i s hi hk
        rw [show l.length - i = 0 by omega]
        exact E2.eq (fun k m => spec_l38Try.l0_eq k m l t _ _) (E2.neg (by omega) E2.ret)
      | succ e ihe =>
        intro i s hi hk
        rw [bestGo_step (by omega)]
        refine E2.eq (fun k m => spec_l38Try.l0_eq k m l t _ _) (E2.pos (by omega) (E2.bind (has_ev t _ (by omega)) ?_))
        simp only [wrapS (show i < 9223372036854775807 by omega)]
        by_cases c : ((i : Int)) ∈ t
        · rw [if_pos (by simpa using c)]
          exact E2.neg (by simpa using c) (ihe (i + 1) s (by omega) hk)
        · rw [if_neg (by simpa using c)]
          have hg2 := goodO_snoc hg (show i < l.length by omega) c
          refine E2.pos (by simpa using c) (E2.pos (by simp only [List.length_nil]; omega) (E2.pos (by simp only [List.length_nil, List.nil_append, List.length_cons]; omega) (E2.bind ((ih (t ++ [(i : Int)]) s (by simp; omega) hg2 hk)) ?_)))
          exact ihe (i + 1) _ (by omega) (best_kept hs hw d _ s (by simp; omega) hg2 hk)
    have := key l.length 0 s (by omega) hk
    rw [Nat.sub_zero] at this
    exact Ev.loop (f := fun k m => spec_l38Try.l0 k m l t 0 s.1) this
noncomputable def orderP (l : List DT31) : List Int := @ite _ (worksP l) (Classical.propDecidable _) (bestN (costP l) l.length l.length ([], -1) []).1 []
theorem orderP_of {l : List DT31} (h : worksP l) : orderP l = (bestN (costP l) l.length l.length ([], -1) []).1 := by
  unfold orderP
  exact @if_pos _ (Classical.propDecidable _) h _ _ _
theorem orderP_not {l : List DT31} (h : ¬ worksP l) : orderP l = [] := by
  unfold orderP
  exact @if_neg _ (Classical.propDecidable _) h _ _ _
theorem goodO_nil (l : List DT31) : goodO l [] := ⟨List.nodup_nil, fun x h => by cases h⟩
theorem order_kept {l : List DT31} (hs : SmW l) (h : worksP l) : keptB l (bestN (costP l) l.length l.length ([], -1) []) := best_kept hs h _ _ _ (by simp) (goodO_nil l) (.inl ⟨by omega, rfl⟩)
theorem order_len (l : List DT31) (hs : SmW l) : (orderP l).length ≤ 1048576 := by
  by_cases h : worksP l
  · rw [orderP_of h]
    rcases order_kept hs h with ⟨_, h2⟩ | ⟨h2, _⟩
    · rw [h2]; exact Nat.zero_le _
    · rw [h2]; exact hs.1
  · rw [orderP_not h]; exact Nat.zero_le _
theorem specOrder_ev (l : List DT31) (hs : SmW l) : Ev (fun k => spec_BestOrder k l) (orderP l) := by
  obtain ⟨r, er, hr⟩ := specWorks_ev l hs
  refine Ev.eq (fun k => spec_BestOrder_eq k l) (Ev.bind er ?_)
  by_cases c : worksP l
  · rw [orderP_of c]
    refine Ev.neg (by simpa using hr.2 c) ?_
    by_cases c2 : l.length = 0
    · refine Ev.pos (by omega) (Ev.ret.val ?_)
      rw [c2]
      unfold bestN
      rw [if_pos (.inl (by omega))]
    · exact Ev.neg (by omega) (Ev.bind (specTry_ev hs c (by omega) l.length [] ([], -1) (by simp) (goodO_nil l) (.inl ⟨by omega, rfl⟩)) Ev.ret)
  · rw [orderP_not c]
    exact Ev.pos (fun h => c (hr.1 h)) Ev.ret
theorem costGo_same (l : List DT31) (t : List Int) : ∀ (d i : Nat) (n : Int), Go.QBest.costGo l t d i n = costGo l t d i n
  | 0, _, _ => rfl
  | d + 1, i, n => by
    unfold Go.QBest.costGo costGo
    rw [costGo_same l t d, costGo_same l t d]
    rfl
theorem costF_same (l : List DT31) : Go.QBest.costF l = costP l := by
  funext t
  have hw : Go.QBest.worksP l ↔ worksP l := Iff.rfl
  show Go.QBest.costP l t = costP l t
  by_cases h : worksP l ∧ t.length = l.length
  · rw [costP_of h.1 h.2, Go.QBest.costP_of (hw.2 h.1) h.2, costGo_same]
  · rw [costP_not h, Go.QBest.costP_not (fun h2 => h ⟨hw.1 h2.1, h2.2⟩)]
theorem implOrder_ev (l : List DT31) (hs : SmW l) : Ev (fun k => impl_BestOrder k l) (orderP l) := by
  have hok : bestOk l := ⟨hs.1, fun p hp => by obtain ⟨i, hi, rfl⟩ := List.mem_iff_getElem.1 hp; have := hs.2 i hi; rwa [rd_at hi] at this⟩
  have haw := (Go.QBest.aw_at l ⟨hs.1, hs.2⟩).2
  have hw : Go.QBest.worksP l ↔ worksP l := Iff.rfl
  refine Ev.eq (fun k => (impl_BestOrder_eq k l).trans (primBest_eq _ _ hok)) (Ev.ret.val ?_)
  unfold bestR
  by_cases c : worksP l
  · rw [orderP_of c, if_pos (haw.2 (hw.2 c))]
    rw [costF_same]
  · rw [orderP_not c, if_neg (fun h => c (hw.1 (haw.1 h)))]
def fewW (l : List DT31) : Prop := l.length ≤ 1000 ∧ ∀ x ∈ l, x.2.1.length ≤ 1000
theorem smW_few {l : List DT31} (h : fewW l) : SmW l := ⟨Nat.le_trans h.1 (by omega), fun i hi => by rw [rd_at hi]; exact Nat.le_trans (h.2 _ (List.getElem_mem hi)) (by omega)⟩
theorem l30Some_dr (rare : Int) : Dr (fun k c => spec_l30Some k c rare) (fun r => r.length ≤ 5) := by
  intro c h
  have key : ∀ (d i : Nat) (c : DT66) (s : List Int), i + d = 6 → CurOk c → s.length + 1 ≤ i → ∃ r c', CurOk c' ∧ r.length ≤ 5 ∧ E2 (fun k m => spec_l30Some.l0 k m rare (i : Int) c.1 c.2.1 c.2.2.1 s) (r, c') := by
    intro d
    induction d with
    | zero => intro i c s hi h hs; exact ⟨s, c, h, by omega, E2.eq (fun k m => spec_l30Some.l0_eq k m rare _ _ _ _ s) (E2.neg (by omega) E2.ret)⟩
    | succ d ih =>
      intro i c s hi h hs
      obtain ⟨x, c1, h1, _, e1⟩ := l1Once_dr rare c h
      by_cases q : x = true
      · obtain ⟨r, c', h', hr, e2⟩ := ih (i + 1) c1 s (by omega) h1 (by omega)
        refine ⟨r, c', h', hr, E2.eq (fun k m => spec_l30Some.l0_eq k m rare _ _ _ _ s) (E2.pos (by omega) (E2.bind e1 (E2.neg (by simpa using q) ?_)))⟩
        simp only [wrapS (show i < 9223372036854775807 by omega)]
        exact e2
      · obtain ⟨r, c', h', hr, e2⟩ := ih (i + 1) c1 (s ++ [(i : Int)]) (by omega) h1 (by simp; omega)
        refine ⟨r, c', h', hr, E2.eq (fun k m => spec_l30Some.l0_eq k m rare _ _ _ _ s) (E2.pos (by omega) (E2.bind e1 (E2.pos q (E2.pos (by simp only [List.length_cons, List.length_nil]; omega) ?_))))⟩
        simp only [wrapS (show i < 9223372036854775807 by omega)]
        exact e2
  obtain ⟨r, c', h', hr, e⟩ := key 5 1 c [] (by omega) h (by simp)
  exact ⟨r, c', h', hr, Ev.eq (fun k => spec_l30Some_eq k c rare) (Ev.loop (f := fun k m => spec_l30Some.l0 k m rare 1 c.1 c.2.1 c.2.2.1 []) e)⟩
theorem l38Any_dr : Dr (fun k c => spec_l38Any k c) (fun r => fewW r) := by
  intro c h
  have key : ∀ (d : Nat) (c : DT66) (s : List DT31), CurOk c → s.length + d ≤ 1000 → (∀ x ∈ s, x.2.1.length ≤ 1000) → ∃ r c', CurOk c' ∧ fewW r ∧ E2 (fun k m => spec_l38Any.l0 k m (d : Int) c.1 c.2.1 c.2.2.1 s) (r, c') := by
    intro d
    induction d with
    | zero =>
      intro c s h hs hw
      by_cases q : (0 : Int) < ((List.length s : Nat) : Int)
      · obtain ⟨x, c1, h1, _, e1⟩ := l1Below_dr 9 c h
        by_cases q0 : x = 0
        · obtain ⟨y, c2, h2, _, e2⟩ := l1Int_dr [0, 10000000, 10000001] (by simp) c1 h1
          refine ⟨setAt T31 s 0 (fun yy => (y, yy.2)), c2, h2, ⟨by rw [setAt_len]; exact hs, fun z hz => ?_⟩, E2.eq (fun k m => spec_l38Any.l0_eq k m _ _ _ _ s) (E2.neg (by omega) (E2.pos q (E2.bind e1 (E2.pos q0 (E2.bind e2 (E2.pos (by omega) (E2.pos q E2.ret)))))))⟩
          have hz' : z ∈ s.set 0 ((y, (rd T31 s 0).2) : DT31) := hz
          rcases List.mem_or_eq_of_mem_set hz' with hz' | hz'
          · exact hw z hz'
          · rw [hz']
            show (rd T31 s ((0 : Nat) : Int)).2.1.length ≤ 1000
            rw [rd_at (show 0 < s.length by omega)]
            exact hw _ (List.getElem_mem _)
        · by_cases q1 : x = 1
          · obtain ⟨y, c2, h2, _, e2⟩ := l1Int_dr [5, 6, 100] (by simp) c1 h1
            refine ⟨List.set s (Int.toNat 0) ((rd T31 s 0).1, ([5, y], (rd T31 s 0).2.2)), c2, h2, ⟨by rw [List.length_set]; exact hs, fun z hz => ?_⟩, E2.eq (fun k m => spec_l38Any.l0_eq k m _ _ _ _ s) (E2.neg (by omega) (E2.pos q (E2.bind e1 (E2.neg q0 (E2.pos q1 (E2.bind e2 (E2.pos (by omega) (E2.pos q E2.ret))))))))⟩
            rcases List.mem_or_eq_of_mem_set hz with hz' | hz'
            · exact hw z hz'
            · rw [hz']; show ([5, y] : List Int).length ≤ 1000; simp
          · exact ⟨s, c1, h1, ⟨hs, hw⟩, E2.eq (fun k m => spec_l38Any.l0_eq k m _ _ _ _ s) (E2.neg (by omega) (E2.pos q (E2.bind e1 (E2.neg q0 (E2.neg q1 E2.ret)))))⟩
      · exact ⟨s, c, h, ⟨hs, hw⟩, E2.eq (fun k m => spec_l38Any.l0_eq k m _ _ _ _ s) (E2.neg (by omega) (E2.neg q E2.ret))⟩
    | succ d ih =>
      intro c s h hs hw
      obtain ⟨x, c1, h1, _, e1⟩ := l1Below_dr 5000 c h
      obtain ⟨y, c2, h2, hy, e2⟩ := l30Some_dr 2 c1 h1
      have hy : y.length ≤ 5 := hy
      obtain ⟨r, c', h', hr, e3⟩ := ih c2 (s ++ ([(IntKind.wrap .i64 (1 + x), (y, ()))] : List DT31)) h2 (by simp; omega) (fun z hz => by
        rcases List.mem_append.1 hz with hz | hz
        · exact hw z hz
        · have hz : z = (IntKind.wrap .i64 (1 + x), (y, ())) := by simpa using hz
          rw [hz]
          show y.length ≤ 1000
          omega)
      refine ⟨r, c', h', hr, E2.eq (fun k m => spec_l38Any.l0_eq k m _ _ _ _ s) (E2.pos (by omega) (E2.bind e1 (E2.bind e2 (E2.pos (by simp only [List.length_cons, List.length_nil]; omega) ?_))))⟩
      simp only [wrapP (show 0 < d + 1 by omega) (show d + 1 < 9223372036854775807 by omega), Nat.add_sub_cancel]
      exact e3
  obtain ⟨x, c1, h1, ⟨h2, h3, _⟩, e1⟩ := l1Below_dr 6 c h
  obtain ⟨n, rfl⟩ := Int.eq_ofNat_of_zero_le h2
  have := h3 (by omega)
  obtain ⟨r, c', h', hr, e3⟩ := key n c1 [] h1 (by simp; omega) (by simp)
  exact ⟨r, c', h', hr, Ev.eq (fun k => spec_l38Any_eq k c) (Ev.bind e1 (Ev.loop (f := fun k m => spec_l38Any.l0 k m (n : Int) c1.1 c1.2.1 c1.2.2.1 []) e3))⟩
theorem drawMoves_ev (code : List Int) (hc : code.length ≤ 1048576) : ∃ a b : DT31, a.2.1.length ≤ 5 ∧ b.2.1.length ≤ 5 ∧ Ev (fun k => spec_DrawMoves k code) (a, (b, ())) := by
  obtain ⟨c, h, e0⟩ := l1New_ev code hc
  obtain ⟨x, c1, h1, hx, e1⟩ := l30Some_dr 2 c h
  obtain ⟨y, c2, h2, hy, e2⟩ := l30Some_dr 2 c1 h1
  exact ⟨(5, (x, ())), (6, (y, ())), hx, hy, Ev.eq (fun k => spec_DrawMoves_eq k code) (Ev.bind e0 (Ev.bind (Ev.eq (fun k => spec_l38Two_eq k c) (Ev.bind e1 (Ev.bind e2 Ev.ret))) Ev.ret))⟩
theorem drawProg_ev (code : List Int) (hc : code.length ≤ 1048576) : ∃ (l : List DT31) (p : Int), fewW l ∧ Ev (fun k => spec_DrawProgramMs k code) (l, (p, ())) := by
  obtain ⟨c, h, e0⟩ := l1New_ev code hc
  obtain ⟨l, c1, h1, hl, e1⟩ := l38Any_dr c h
  obtain ⟨p, c2, h2, _, e2⟩ := l1Int_dr [0, 100, 10000000, 10000001, (-1)] (by simp) c1 h1
  exact ⟨l, p, hl, Ev.eq (fun k => spec_DrawProgramMs_eq k code) (Ev.bind e0 (Ev.bind e1 (Ev.bind e2 Ev.ret)))⟩
theorem drawOrder_ev (code : List Int) (hc : code.length ≤ 1048576) : ∃ (l : List DT31) (t : List Int), fewW l ∧ t.length ≤ 1048576 ∧ Ev (fun k => spec_DrawOrderCost k code) (l, (t, ())) := by
  obtain ⟨c, h, e0⟩ := l1New_ev code hc
  obtain ⟨l, c1, h1, hl, e1⟩ := l38Any_dr c h
  have hs := smW_few hl
  have e2 := specOrder_ev l hs
  have hv := order_len l hs
  generalize orderP l = v at e2 hv
  by_cases q : (1 : Int) < ((List.length v : Nat) : Int)
  · obtain ⟨x, c2, h2, _, e3⟩ := l1Below_dr 4 c1 h1
    by_cases q0 : x = 0
    · exact ⟨l, List.set v (Int.toNat 0) (rd (.int .i64) v 1), hl, by rw [List.length_set]; exact hv, Ev.eq (fun k => spec_DrawOrderCost_eq k code) (Ev.bind e0 (Ev.bind e1 (Ev.bind e2 (Ev.pos q (Ev.bind e3 (Ev.pos q0 (Ev.pos (by omega) (Ev.pos q (Ev.pos (by omega) (Ev.pos (by omega) Ev.ret))))))))))⟩
    · by_cases q1 : x = 1
      · have hw : IntKind.wrap .i64 (((List.length v : Nat) : Int) - 1) = ((List.length v : Nat) : Int) - 1 := wrapI (by omega) (by omega)
        refine ⟨l, ([(rd (.int .i64) v (((List.length v : Nat) : Int) - 1))] : (List Int)) ++ (List.take ((Int.toNat (((List.length v : Nat) : Int) - 1)) - (Int.toNat 0)) (List.drop (Int.toNat 0) v)), hl, by simp; omega, Ev.eq (fun k => spec_DrawOrderCost_eq k code) (Ev.bind e0 (Ev.bind e1 (Ev.bind e2 (Ev.pos q (Ev.bind e3 (Ev.neg q0 (Ev.pos q1 ?_)))))))⟩
        simp only [hw]
        exact Ev.pos (by omega) (Ev.pos (by omega) (Ev.pos (by omega) (Ev.pos (by omega) (Ev.pos (by simp only [List.length_cons, List.length_nil, List.length_take, List.length_drop]; omega) Ev.ret))))
      · exact ⟨l, v, hl, hv, Ev.eq (fun k => spec_DrawOrderCost_eq k code) (Ev.bind e0 (Ev.bind e1 (Ev.bind e2 (Ev.pos q (Ev.bind e3 (Ev.neg q0 (Ev.neg q1 Ev.ret)))))))⟩
  · exact ⟨l, v, hl, hv, Ev.eq (fun k => spec_DrawOrderCost_eq k code) (Ev.bind e0 (Ev.bind e1 (Ev.bind e2 (Ev.neg q Ev.ret))))⟩
/-! No order costs less. -/
def monoS (s r : List Int × Int) : Prop := 0 ≤ s.2 → 0 ≤ r.2 ∧ r.2 ≤ s.2
theorem monoS_trans {a b c : List Int × Int} (h1 : monoS a b) (h2 : monoS b c) : monoS a c := fun h => by
  have := h1 h
  have := h2 this.1
  omega
theorem best_mono {l : List DT31} (hs : SmW l) (hw : worksP l) : ∀ (d : Nat) (t : List Int) (s : List Int × Int), t.length + d = l.length → goodO l t → monoS s (bestN (costP l) l.length d s t) := by
  intro d
  induction d with
  | zero =>
    intro t s ht hg h
    have := costP_nonneg hs hw hg (by omega)
    unfold bestN
    split
    · rename_i c
      show 0 ≤ costP l t ∧ costP l t ≤ s.2
      omega
    · exact ⟨h, Int.le_refl _⟩
  | succ d ih =>
    intro t s ht hg
    show monoS s (bestGo (fun s t => bestN (costP l) l.length d s t) l.length t l.length s)
    have key : ∀ (e i : Nat) (s : List Int × Int), i + e = l.length → monoS s (bestGo (fun s t => bestN (costP l) l.length d s t) l.length t (l.length - i) s) := by
      intro e
      induction e with
      | zero => intro i s hi; rw [show l.length - i = 0 by omega]; exact fun h => ⟨h, Int.le_refl _⟩
      | succ e ihe =>
        intro i s hi
        rw [bestGo_step (by omega)]
        split
        · exact ihe (i + 1) s (by omega)
        · rename_i hn
          exact monoS_trans (ih _ s (by simp; omega) (goodO_snoc hg (by omega) (by simpa using hn))) (ihe (i + 1) _ (by omega))
    have := key l.length 0 s (by omega)
    rwa [Nat.sub_zero] at this
theorem goMono {l : List DT31} (hs : SmW l) (hw : worksP l) (d : Nat) (t : List Int) (ht : t.length + (d + 1) = l.length) (hg : goodO l t) : ∀ (e i : Nat) (s : List Int × Int), i + e = l.length → monoS s (bestGo (fun s t => bestN (costP l) l.length d s t) l.length t (l.length - i) s) := by
  intro e
  induction e with
  | zero => intro i s hi; rw [show l.length - i = 0 by omega]; exact fun h => ⟨h, Int.le_refl _⟩
  | succ e ihe =>
    intro i s hi
    rw [bestGo_step (by omega)]
    split
    · exact ihe (i + 1) s (by omega)
    · rename_i hn
      exact monoS_trans (best_mono hs hw d _ s (by simp; omega) (goodO_snoc hg (by omega) (by simpa using hn))) (ihe (i + 1) _ (by omega))
theorem best_le {l : List DT31} (hs : SmW l) (hw : worksP l) : ∀ (d : Nat) (t u : List Int) (s : List Int × Int), t.length + d = l.length → goodO l t → goodO l (t ++ u) → (t ++ u).length = l.length → 0 ≤ (bestN (costP l) l.length d s t).2 ∧ (bestN (costP l) l.length d s t).2 ≤ costP l (t ++ u) := by
  intro d
  induction d with
  | zero =>
    intro t u s ht hg hgu hl
    have hu : u = [] := List.eq_nil_of_length_eq_zero (by rw [List.length_append] at hl; omega)
    subst hu
    rw [List.append_nil]
    have := costP_nonneg hs hw hg (by omega)
    unfold bestN
    split
    · exact ⟨this, Int.le_refl _⟩
    · rename_i c
      omega
  | succ d ih =>
    intro t u s ht hg hgu hl
    cases u with
    | nil => simp at hl; omega
    | cons x u =>
      have hx := hgu.2 x (by simp)
      obtain ⟨i, rfl⟩ : ∃ i : Nat, x = (i : Int) := ⟨x.toNat, by have := hx.1; omega⟩
      have hi : i < l.length := by have := hx.2; omega
      have hn : ((i : Int)) ∉ t := fun h => by
        have := (List.nodup_append.1 hgu.1).2.2
        exact this _ h _ (by simp) rfl
      have he : t ++ (i : Int) :: u = (t ++ [(i : Int)]) ++ u := by simp
      rw [he] at hgu hl ⊢
      have hg2 := goodO_snoc hg hi hn
      show 0 ≤ (bestGo (fun s t => bestN (costP l) l.length d s t) l.length t l.length s).2 ∧ (bestGo (fun s t => bestN (costP l) l.length d s t) l.length t l.length s).2 ≤ _
      have key : ∀ (e j : Nat) (s : List Int × Int), j + e = l.length → j ≤ i → 0 ≤ (bestGo (fun s t => bestN (costP l) l.length d s t) l.length t (l.length - j) s).2 ∧ (bestGo (fun s t => bestN (costP l) l.length d s t) l.length t (l.length - j) s).2 ≤ costP l ((t ++ [(i : Int)]) ++ u) := by
        intro e
        induction e with
        | zero => intro j s hj hji; omega
        | succ e ihe =>
          intro j s hj hji
          rw [bestGo_step (by omega)]
          by_cases c : j = i
          · subst c
            rw [if_neg (by simpa using hn)]
            have h1 := ih (t ++ [(j : Int)]) u s (by simp; omega) hg2 hgu hl
            have h2 := goMono hs hw d t ht hg e (j + 1) (bestN (costP l) l.length d s (t ++ [(j : Int)])) (by omega) h1.1
            exact ⟨h2.1, Int.le_trans h2.2 h1.2⟩
          · split
            · exact ihe (j + 1) s (by omega) (by omega)
            · exact ihe (j + 1) _ (by omega) (by omega)
      have := key l.length 0 s (by omega) (by omega)
      rwa [Nat.sub_zero] at this
def idO (n : Nat) : List Int := (List.range n).map Int.ofNat
theorem idO_good (l : List DT31) : goodO l (idO l.length) ∧ (idO l.length).length = l.length := by
  refine ⟨⟨?_, fun x hx => ?_⟩, by simp [idO]⟩
  · unfold idO
    exact List.Pairwise.map Int.ofNat (fun a b h e => h (Int.ofNat.inj e)) List.nodup_range
  · obtain ⟨i, hi, rfl⟩ := List.mem_map.1 hx
    have := List.mem_range.1 hi
    exact ⟨Int.natCast_nonneg i, by show (i : Int) < _; omega⟩
theorem order_best {l : List DT31} (hs : SmW l) (hw : worksP l) : (orderP l).length = l.length ∧ goodO l (orderP l) ∧ 0 ≤ costP l (orderP l) ∧ ∀ u, goodO l u → u.length = l.length → costP l (orderP l) ≤ costP l u := by
  have h1 := best_le hs hw l.length [] (idO l.length) ([], -1) (by simp) (goodO_nil l) (idO_good l).1 (idO_good l).2
  rw [orderP_of hw]
  rcases order_kept hs hw with ⟨h2, _⟩ | ⟨h2, h3, h4, h5⟩
  · omega
  · rw [← h3]
    exact ⟨h2, h5, h4, fun u hu hul => (best_le hs hw l.length [] u ([], -1) (by simp) (goodO_nil l) hu hul).2⟩
/-- What costs something is an order. -/
theorem costGo_good {l : List DT31} {t : List Int} : ∀ (d i : Nat) (n : Int), i + d = t.length → goodO l (t.take i) → 0 ≤ costGo l t d i n → goodO l t := by
  intro d
  induction d with
  | zero => intro i n hi hg _; rwa [List.take_of_length_le (by omega)] at hg
  | succ d ih =>
    intro i n hi hg h
    unfold costGo at h
    by_cases c1 : LE.le (α := Int) 0 (rd (.int .i64) t (i : Int)) ∧ LE.le (α := Int) (rd (.int .i64) t (i : Int)) ((l.length : Int) - 1)
    · rw [if_neg (by simpa using c1)] at h
      by_cases c2 : (rd (.int .i64) t (i : Int) : Int) ∈ t.take i
      · rw [if_pos c2] at h; omega
      · rw [if_neg c2] at h
        have hlt : i < t.length := by omega
        have hg2 : goodO l (t.take (i + 1)) := by
          rw [rd_at hlt] at c1 c2
          have hin : inR l (t[i] : Int) := ⟨c1.1, by have := c1.2; omega⟩
          rw [List.take_succ_eq_append_getElem hlt]
          have he : (t[i] : Int) = (((t[i] : Int).toNat : Nat) : Int) := by have := hin.1; omega
          rw [he]
          exact goodO_snoc hg (by have := hin.1; have := hin.2; omega) (by rw [← he]; exact c2)
        split at h
        · exact ih (i + 1) _ (by omega) hg2 h
        · exact ih (i + 1) _ (by omega) hg2 h
    · rw [if_pos c1] at h; omega
theorem costP_good {l : List DT31} {t : List Int} (hw : worksP l) (h : 0 ≤ costP l t) : goodO l t ∧ t.length = l.length := by
  by_cases c : t.length = l.length
  · rw [costP_of hw c] at h
    exact ⟨costGo_good t.length 0 0 (by omega) (by rw [List.take_zero]; exact goodO_nil l) h, c⟩
  · rw [costP_not (fun h2 => c h2.2)] at h
    omega
/-! Forth and back. -/
def pairSum (m : Int → Int → Int) : List Int → Int
  | a :: b :: r => m a b + pairSum m (b :: r)
  | _ => 0
theorem pairSum_snoc (m : Int → Int → Int) (a b : Int) : ∀ xs : List Int, pairSum m (xs ++ [a] ++ [b]) = pairSum m (xs ++ [a]) + m a b
  | [] => by simp [pairSum]
  | [x] => by simp [pairSum]
  | x :: y :: r => by
    have := pairSum_snoc m a b (y :: r)
    simp only [List.cons_append, pairSum] at this ⊢
    omega
theorem pairSum_rev {m : Int → Int → Int} (hm : ∀ a b, m a b = m b a) : ∀ xs : List Int, pairSum m xs.reverse = pairSum m xs
  | [] => rfl
  | [x] => rfl
  | x :: y :: r => by
    have := pairSum_rev hm (y :: r)
    rw [List.reverse_cons] at this
    rw [List.reverse_cons, List.reverse_cons, pairSum_snoc, this, hm y x]
    simp only [pairSum]
    omega
def movesAt (l : List DT31) (a b : Int) : Int := movesP (rd T31 l a) (rd T31 l b)
theorem movesP_comm (a b : DT31) : movesP a b = movesP b a := by unfold movesP; omega
theorem costGo_sum {l : List DT31} {t : List Int} (hg : goodO l t) : ∀ (d i : Nat) (n : Int), i + d = t.length → 0 < i → costGo l t d i n = n + pairSum (movesAt l) (t.drop (i - 1)) := by
  have step : ∀ (d i : Nat) (n : Int), i + (d + 1) = t.length → costGo l t (d + 1) i n = if 0 < i then costGo l t d (i + 1) (n + movesP (rd T31 l (rd (.int .i64) t ((i - 1 : Nat) : Int))) (rd T31 l (rd (.int .i64) t (i : Int)))) else costGo l t d (i + 1) n := by
    intro d i n hi
    have hlt : i < t.length := by omega
    have h1 : inR l (rd (.int .i64) t (i : Int)) := by rw [rd_at hlt]; exact hg.2 _ (List.getElem_mem hlt)
    show (if ¬ (LE.le (α := Int) 0 (rd (.int .i64) t (i : Int)) ∧ LE.le (α := Int) (rd (.int .i64) t (i : Int)) ((l.length : Int) - 1)) then (-1 : Int) else _) = _
    rw [if_neg (by simp only [Classical.not_not]; exact ⟨h1.1, by have := h1.2; omega⟩), if_neg (by
      rw [rd_at hlt]
      intro hm
      obtain ⟨j, hj, he⟩ := List.mem_iff_getElem.1 hm
      rw [List.getElem_take] at he
      have hj2 : j < i := by rw [List.length_take] at hj; omega
      have := (List.getElem_inj hg.1).1 he
      omega)]
  intro d
  induction d with
  | zero =>
    intro i n hi h0
    have h1 : i - 1 < t.length := by omega
    rw [List.drop_eq_getElem_cons h1, show i - 1 + 1 = t.length by omega, List.drop_length]
    simp [costGo, pairSum]
  | succ d ih =>
    intro i n hi h0
    rw [step d i n hi, if_pos h0, ih (i + 1) _ (by omega) (by omega)]
    have h1 : i - 1 < t.length := by omega
    have h2 : i < t.length := by omega
    have h3 : t.drop (i - 1) = t[i - 1] :: t[i] :: t.drop (i + 1) := by
      rw [List.drop_eq_getElem_cons h1, show i - 1 + 1 = i by omega, List.drop_eq_getElem_cons h2]
    have h4 : t.drop (i + 1 - 1) = t[i] :: t.drop (i + 1) := by rw [Nat.add_sub_cancel, List.drop_eq_getElem_cons h2]
    rw [h3, h4, rd_at h1, rd_at h2]
    show _ = n + (movesAt l t[i - 1] t[i] + pairSum (movesAt l) (t[i] :: t.drop (i + 1)))
    unfold movesAt
    omega
theorem costP_sum {l : List DT31} {t : List Int} (hw : worksP l) (hg : goodO l t) (ht : t.length = l.length) : costP l t = pairSum (movesAt l) t := by
  rw [costP_of hw ht]
  cases ht2 : t.length with
  | zero =>
    have : t = [] := List.eq_nil_of_length_eq_zero ht2
    rw [this]
    rfl
  | succ n =>
    have hlt : 0 < t.length := by omega
    have h1 : inR l (rd (.int .i64) t ((0 : Nat) : Int)) := by rw [rd_at hlt]; exact hg.2 _ (List.getElem_mem hlt)
    show (if ¬ (LE.le (α := Int) 0 (rd (.int .i64) t ((0 : Nat) : Int)) ∧ LE.le (α := Int) (rd (.int .i64) t ((0 : Nat) : Int)) ((l.length : Int) - 1)) then (-1 : Int) else _) = _
    rw [if_neg (by simp only [Classical.not_not]; exact ⟨h1.1, by have := h1.2; omega⟩), if_neg (by rw [List.take_zero]; intro h; cases h), if_neg (by omega), costGo_sum hg n 1 0 (by omega) (by omega)]
    simp
theorem cost_rev {l : List DT31} {t : List Int} (hw : worksP l) (hg : goodO l t) (ht : t.length = l.length) : costP l t.reverse = costP l t := by
  rw [costP_sum hw hg ht, costP_sum hw (t := t.reverse) ⟨List.pairwise_reverse.2 (List.Pairwise.imp (fun h e => h e.symm) hg.1), fun x hx => hg.2 x (List.mem_reverse.1 hx)⟩ (by rw [List.length_reverse]; exact ht), pairSum_rev]
  intro a b
  exact movesP_comm _ _
/-! How long a program lasts. -/
theorem progMs_ev (l : List DT31) (p : Int) (hs : SmW l) : ∃ r : Int, 0 ≤ r ∧ Ev (fun k => impl_ProgramMs k l p) r := by
  obtain ⟨r, er, hr⟩ := implWorks_ev l hs
  by_cases c : worksP l
  · by_cases q : 0 ≤ p ∧ p ≤ 10000000
    · have hl := c.2
      have key : ∀ (d i : Nat) (n : Int), i + d = l.length → 0 ≤ n → n ≤ 1000000000 + 10000000 * (i : Int) → ∃ r : Int, 0 ≤ r ∧ E2 (fun k m => impl_ProgramMs.l0 k m n l ((List.length l : Nat) : Int) (i : Int)) r := by
        intro d
        induction d with
        | zero => intro i n hi h0 h1; exact ⟨n, h0, E2.eq (fun k m => impl_ProgramMs.l0_eq k m n l _ _) (E2.neg (by omega) E2.ret)⟩
        | succ d ih =>
          intro i n hi h0 h1
          have hm := (c.1 i (by omega)).1
          obtain ⟨r, hr0, e⟩ := ih (i + 1) (n + (rd T31 l (i : Int)).1) (by omega) (by omega) (by omega)
          refine ⟨r, hr0, E2.eq (fun k m => impl_ProgramMs.l0_eq k m n l _ _) (E2.pos (by omega) (E2.pos (by omega) (E2.pos (by omega) ?_)))⟩
          simp only [wrapS (show i < 9223372036854775807 by omega), wrapI (show -9223372036854775808 ≤ n + (rd T31 l (i : Int)).1 by omega) (show n + (rd T31 l (i : Int)).1 ≤ 9223372036854775807 by omega)]
          exact e
      have hx : IntKind.wrap .i64 (((List.length l : Nat) : Int) - 1) = ((List.length l : Nat) : Int) - 1 := wrapI (by omega) (by omega)
      have hmx : 0 ≤ max (((List.length l : Nat) : Int) - 1) (0 : Int) ∧ max (((List.length l : Nat) : Int) - 1) (0 : Int) ≤ 5 := by omega
      generalize hmm : max (((List.length l : Nat) : Int) - 1) (0 : Int) = mx at hmx
      have hp0 : 0 ≤ p * mx := Int.mul_nonneg q.1 hmx.1
      have hp1 : p * mx ≤ 10000000 * 5 := Int.mul_le_mul q.2 hmx.2 hmx.1 (by omega)
      obtain ⟨r2, h2, e2⟩ := key l.length 0 (p * mx) (by omega) hp0 (by omega)
      refine ⟨r2, h2, Ev.eq (fun k => impl_ProgramMs_eq k l p) (Ev.bind er (Ev.neg (by simpa using hr.2 c) (Ev.bind (inRange_ev _ _ _) (Ev.neg (by simpa using q) ?_))))⟩
      have hw : IntKind.wrap .i64 (p * (max (IntKind.wrap .i64 (((List.length l : Nat) : Int) - 1)) 0 : Int)) = p * mx := by
        rw [hx, hmm]
        exact wrapI (by omega) (by omega)
      rw [hw]
      exact Ev.loop (f := fun k m => impl_ProgramMs.l0 k m (p * mx) l ((List.length l : Nat) : Int) 0) e2
    · exact ⟨0, by omega, Ev.eq (fun k => impl_ProgramMs_eq k l p) (Ev.bind er (Ev.neg (by simpa using hr.2 c) (Ev.bind (inRange_ev _ _ _) (Ev.pos (by simp only [decide_eq_true_eq]; exact q) Ev.ret))))⟩
  · exact ⟨0, by omega, Ev.eq (fun k => impl_ProgramMs_eq k l p) (Ev.bind er (Ev.pos (fun h => c (hr.1 h)) Ev.ret))⟩
theorem lackC_self (a : List Int) : lackC a a = 0 := by
  unfold lackC
  have : a.countP (fun x => !decide (x ∈ a)) = 0 := by
    rw [List.countP_eq_zero]
    intro x hx
    simpa using hx
  rw [this]
  rfl
theorem tail_ev (code : List Int) (hc : code.length ≤ 1048576) : Ev (fun k =>
    (spec_DrawMoves k code).bind fun r10 =>
    (spec_DrawProgramMs k code).bind fun r11 =>
    (impl_Moves k r10.1 r10.2.1).bind fun r12 =>
    (impl_Moves k r10.2.1 r10.1).bind fun r13 =>
    if (r12 : Int) = r13 then
    (impl_Moves k r10.1 r10.1).bind fun r14 =>
    if (r14 : Int) = 0 then
    (impl_ProgramMs k r11.1 r11.2.1).bind fun r15 =>
    some (decide ((0 : Int) ≤ r15))
    else some false
    else some false) true := by
  obtain ⟨a, b, ha, hb, e1⟩ := drawMoves_ev code hc
  obtain ⟨l, p, hl, e2⟩ := drawProg_ev code hc
  obtain ⟨r, hr, e3⟩ := progMs_ev l p (smW_few hl)
  refine Ev.bind e1 (Ev.bind e2 (Ev.bind (implMoves_ev a b (by omega) (by omega)) (Ev.bind (implMoves_ev b a (by omega) (by omega)) (Ev.pos (movesP_comm a b) (Ev.bind (implMoves_ev a a (by omega) (by omega)) (Ev.pos ?_ (Ev.bind e3 (Ev.ret.val (by simpa using hr)))))))))
  unfold movesP
  rw [lackC_self]
  rfl
theorem pure (a0 : List Int) (w0 : Wd (.list (.int .u8)) a0) : ∃ k, laws_FnOrdered k a0 = some true := by
  refine Ev.at (f := fun k => laws_FnOrdered k a0) ?_
  by_cases hb : (1048576 : Int) < ((List.length a0 : Nat) : Int)
  · exact Ev.eq (fun k => laws_FnOrdered_eq k a0) (Ev.bind (Ev.eq (fun k => laws_big_eq k a0) Ev.ret) (Ev.pos (by simpa using hb) Ev.ret))
  have hc : a0.length ≤ 1048576 := by omega
  obtain ⟨l, t, hf, htl, e1⟩ := drawOrder_ev a0 hc
  have hs := smW_few hf
  have hvl := order_len l hs
  obtain ⟨ri, ei, hi⟩ := implWorks_ev l hs
  obtain ⟨rs, es, hss⟩ := specWorks_ev l hs
  have hrr : ri = rs := by rw [Bool.eq_iff_iff]; exact hi.trans hss.symm
  subst hrr
  refine Ev.eq (fun k => laws_FnOrdered_eq k a0) (Ev.bind (Ev.eq (fun k => laws_big_eq k a0) Ev.ret) (Ev.neg (by simpa using hb) (Ev.bind e1 (Ev.bind (implOrder_ev l hs) (Ev.bind (implCost_ev l _ hs hvl) (Ev.bind ei (Ev.bind es (Ev.neg (by simp) (Ev.bind ei ?_)))))))))
  by_cases c : worksP l
  · obtain ⟨h1, h2, h3, h4⟩ := order_best hs c
    refine Ev.neg (by simpa using hi.2 c) (Ev.neg (by show ¬ (((List.length (orderP l) : Nat) : Int) ≠ ((List.length l : Nat) : Int)); omega) (Ev.neg (by omega) ?_))
    show Ev (fun k => laws_FnOrdered.l0 k k a0 (costP l (orderP l)) 0 l t (orderP l) []) true
    have hrev := cost_rev c h2 h1
    have hlast : costP l t < 0 ∨ costP l (orderP l) ≤ costP l t := by
      by_cases q : 0 ≤ costP l t
      · exact .inr (h4 t (costP_good c q).1 (costP_good c q).2)
      · exact .inl (by omega)
    generalize orderP l = o at *
    generalize costP l o = n at *
    have key : ∀ (d i : Nat), i + d = o.length → E2 (fun k m => laws_FnOrdered.l0 k m a0 n (i : Int) l t o (o.take i).reverse) true := by
      intro d
      induction d with
      | zero =>
        intro i hi
        obtain rfl : i = o.length := by omega
        rw [List.take_length]
        refine E2.eq (fun k m => laws_FnOrdered.l0_eq k m a0 n _ l t o _) (E2.neg (by omega) (E2.bind (implCost_ev l t hs htl) (E2.bind ((implCost_ev l o.reverse hs (by rw [List.length_reverse]; exact hvl)).val hrev) (E2.neg (by simp) ?_))))
        rcases hlast with q | q
        · exact E2.neg (by omega) (E2.of (tail_ev a0 hc))
        · exact E2.pos (by omega) (E2.neg (by omega) (E2.of (tail_ev a0 hc)))
      | succ d ih =>
        intro i hi
        have hlt : i < o.length := by omega
        have h := ih (i + 1) (by omega)
        refine E2.eq (fun k m => laws_FnOrdered.l0_eq k m a0 n _ l t o _) (E2.pos (by omega) (E2.pos (by omega) (E2.pos (by omega) (E2.pos (by simp only [List.length_cons, List.length_nil, List.length_reverse, List.length_take]; omega) ?_))))
        simp only [wrapS (show i < 9223372036854775807 by omega)]
        have he : ([(rd (.int .i64) o (i : Int))] : List Int) ++ (o.take i).reverse = (o.take (i + 1)).reverse := by
          rw [List.take_succ_eq_append_getElem hlt, List.reverse_append, rd_at hlt]
          rfl
        rw [he]
        exact h
    exact Ev.loop (f := fun k m => laws_FnOrdered.l0 k m a0 n 0 l t o []) (key o.length 0 (by omega))
  · rw [orderP_not c]
    exact Ev.pos (fun h => c (hi.1 h)) (Ev.ret.val (by simp))
end Go.QFnOrdered
