/- The plain half of Best. No condition. -/
import Derived.Test.YtejaegogaaiblaaQBest
import Derived.Test.YtejaegogaaiblaaBestF
import Derived.Test.YtejaegogaaiblaaPur
set_option linter.unusedVariables false
set_option linter.unusedSimpArgs false
open Go Go.Flat
namespace Go.QBest
theorem inRange_ev (x lo hi : Int) : Ev (fun k => impl_InRange k x lo hi) (decide (lo ≤ x ∧ x ≤ hi)) := by
  by_cases c : lo ≤ x
  · exact Ev.eq (fun k => impl_InRange_eq k x lo hi) (Ev.pos c (Ev.ret.val (by simp [c])))
  · exact Ev.eq (fun k => impl_InRange_eq k x lo hi) (Ev.neg c (Ev.ret.val (by simp [c])))
theorem wrapP {i : Nat} (h : 0 < i) (h2 : i < 9223372036854775807) : IntKind.wrap .i64 ((i : Int) - 1) = ((i - 1 : Nat) : Int) := by
  rw [wrapI (by omega) (by omega)]; omega
theorem index_ev (l : List Int) (x : Int) (hl : l.length ≤ 1048576) : Ev (fun k => slices_Index___int_int k l x) (firstI (fun i => decide (Eq (α := Int) x (rd (.int .i64) l (i : Int)))) l.length) := by
  have er := loop_firstR (R := fun i v => E2 (fun k m => slices_Index___int_int.l0 k m l x ((List.length l : Nat) : Int) i) v) (n := l.length) (fun i => decide (Eq (α := Int) x (rd (.int .i64) l (i : Int)))) (E2.eq (fun k m => slices_Index___int_int.l0_eq k m l x _ _) (E2.neg (by omega) E2.ret)) (fun i hi hq v e => by
    refine E2.eq (fun k m => slices_Index___int_int.l0_eq k m l x _ _) (E2.pos (by omega) (E2.pos (by omega) (E2.pos (by omega) (E2.neg (by simpa using hq) ?_))))
    simp only [wrapS (show i < 9223372036854775807 by omega)]; exact e) (fun i hi hq => E2.eq (fun k m => slices_Index___int_int.l0_eq k m l x _ _) (E2.pos (by omega) (E2.pos (by omega) (E2.pos (by omega) (E2.pos (by simpa using hq) E2.ret)))))
  exact Ev.eq (fun k => slices_Index___int_int_eq k l x) (Ev.loop (f := fun k m => slices_Index___int_int.l0 k m l x ((List.length l : Nat) : Int) 0) er)
theorem contains_ev (l : List Int) (x : Int) (hl : l.length ≤ 1048576) : Ev (fun k => slices_Contains___int_int k l x) (decide (x ∈ l)) := by
  refine Ev.eq (fun k => slices_Contains___int_int_eq k l x) (Ev.bind (index_ev l x hl) (Ev.ret.val ?_))
  rw [Bool.eq_iff_iff, decide_eq_true_eq, decide_eq_true_eq, firstI_nonneg]
  constructor
  · rintro ⟨i, hi, h⟩
    have h : x = rd (.int .i64) l (i : Int) := by simpa using h
    rw [h, rd_at hi]; exact List.getElem_mem hi
  · intro h
    obtain ⟨i, hi, h⟩ := List.mem_iff_getElem.1 h
    exact ⟨i, hi, by rw [decide_eq_true_eq, rd_at hi]; exact h.symm⟩
def QA (lo hi : Int) (l : List Int) (i : Nat) : Prop := (LE.le (α := Int) lo (rd (.int .i64) l (i : Int)) ∧ LE.le (α := Int) (rd (.int .i64) l (i : Int)) hi) ∧ (0 < i → LT.lt (α := Int) (rd (.int .i64) l ((i - 1 : Nat) : Int)) (rd (.int .i64) l (i : Int)))
def ascP (l : List Int) (lo hi : Int) : Prop := ∀ i, i < l.length → QA lo hi l i
theorem notA {lo hi : Int} {l : List Int} {i : Nat} (h : ¬ QA lo hi l i) (h1 : LE.le (α := Int) lo (rd (.int .i64) l (i : Int)) ∧ LE.le (α := Int) (rd (.int .i64) l (i : Int)) hi) : 0 < i ∧ ¬ LT.lt (α := Int) (rd (.int .i64) l ((i - 1 : Nat) : Int)) (rd (.int .i64) l (i : Int)) := by
  refine ⟨?_, fun c => h ⟨h1, fun _ => c⟩⟩
  rcases Nat.eq_zero_or_pos i with hi | hi
  · exact absurd ⟨h1, fun h' => by omega⟩ h
  · exact hi
theorem asc_ev (l : List Int) (lo hi : Int) (hl : l.length ≤ 1048576) : ∃ r, Ev (fun k => impl_ascending k l lo hi) r ∧ (r = true ↔ ascP l lo hi) := by
  obtain ⟨r, er, hr⟩ := loop_allR (R := fun i v => E2 (fun k m => impl_ascending.l0 k m l lo hi l ((List.length l : Nat) : Int) i) v) (n := l.length) (QA lo hi l) true (E2.eq (fun k m => impl_ascending.l0_eq k m l lo hi l _ _) (E2.neg (by omega) E2.ret)) (fun i hi' hq v e => by
    obtain ⟨h1, h2⟩ := hq
    refine E2.eq (fun k m => impl_ascending.l0_eq k m l lo hi l _ _) (E2.pos (by omega) (E2.pos (by omega) (E2.pos (by omega) (E2.bind (inRange_ev _ _ _) (E2.neg (by simpa using h1) ?_)))))
    simp only [wrapS (show i < 9223372036854775807 by omega)]
    by_cases c : 0 < i
    · refine E2.pos (by omega) ?_
      simp only [wrapP c (show i < 9223372036854775807 by omega)]
      have := h2 c
      exact E2.pos (by omega) (E2.pos (by omega) (E2.neg (by omega) e))
    · exact E2.neg (by omega) e) (fun i hi' hq => by
    refine E2.eq (fun k m => impl_ascending.l0_eq k m l lo hi l _ _) (E2.pos (by omega) (E2.pos (by omega) (E2.pos (by omega) (E2.bind (inRange_ev _ _ _) ?_))))
    by_cases h1 : LE.le (α := Int) lo (rd (.int .i64) l (i : Int)) ∧ LE.le (α := Int) (rd (.int .i64) l (i : Int)) hi
    · obtain ⟨c, c1⟩ := notA hq h1
      refine E2.neg (by simpa using h1) (E2.pos (by omega) ?_)
      simp only [wrapP c (show i < 9223372036854775807 by omega)]
      exact E2.pos (by omega) (E2.pos (by omega) (E2.pos (by omega) E2.ret))
    · exact E2.pos (by simp only [decide_eq_true_eq]; exact h1) E2.ret)
  exact ⟨r, Ev.eq (fun k => impl_ascending_eq k l lo hi) (Ev.loop (f := fun k m => impl_ascending.l0 k m l lo hi l ((List.length l : Nat) : Int) 0) er), hr.trans ⟨fun h => h.1, fun h => ⟨h, rfl⟩⟩⟩
theorem Ev.uniq {α : Type} {f : Nat → Option α} {a b : α} (h : Ev f a) (k : Ev f b) : a = b := by
  obtain ⟨K, h⟩ := h
  obtain ⟨M, k⟩ := k
  have h1 := h (max K M) (by omega)
  rw [k (max K M) (by omega)] at h1
  exact (Option.some.inj h1).symm
theorem loop_cnt {t : Ty} {l : List t.den} {R : Int → Int → Int → Prop} (p : t.den → Bool) (g : Int → Int) (B : Int) (hend : ∀ n, 0 ≤ n → n ≤ B + (l.length : Int) → R n (l.length : Int) (g n))
    (hyes : ∀ (i : Nat) n, i < l.length → p (rd t l (i : Int)) = true → 0 ≤ n → n ≤ B + (i : Int) → ∀ v, R (n + 1) ((i + 1 : Nat) : Int) v → R n (i : Int) v) (hno : ∀ (i : Nat) n, i < l.length → p (rd t l (i : Int)) = false → 0 ≤ n → n ≤ B + (i : Int) → ∀ v, R n ((i + 1 : Nat) : Int) v → R n (i : Int) v) (n : Int) (h0 : 0 ≤ n) (hB : n ≤ B) :
    R n 0 (g (n + ((l.countP p : Nat) : Int))) := by
  have key : ∀ (d i : Nat) (n : Int), i + d = l.length → 0 ≤ n → n ≤ B + (i : Int) → R n (i : Int) (g (n + (((l.drop i).countP p : Nat) : Int))) := by
    intro d
    induction d with
    | zero =>
      intro i n hi h1 h2
      obtain rfl : i = l.length := by omega
      rw [List.drop_length]
      have := hend n h1 h2
      simpa using this
    | succ d ih =>
      intro i n hi h1 h2
      have hlt : i < l.length := by omega
      have hd : l.drop i = rd t l (i : Int) :: l.drop (i + 1) := by rw [rd_at hlt]; exact List.drop_eq_getElem_cons hlt
      rw [hd, List.countP_cons]
      cases hp : p (rd t l (i : Int)) with
      | true =>
        refine hyes i n hlt hp h1 h2 _ ?_
        have := ih (i + 1) (n + 1) (by omega) (by omega) (by omega)
        rw [show n + (((l.drop (i + 1)).countP p + if true = true then 1 else 0 : Nat) : Int) = n + 1 + (((l.drop (i + 1)).countP p : Nat) : Int) by simp; omega]
        exact this
      | false =>
        refine hno i n hlt hp h1 h2 _ ?_
        have := ih (i + 1) n (by omega) (by omega) (by omega)
        simpa using this
  exact key l.length 0 n (by omega) h0 (by simpa using hB)
def lackC (a b : List Int) : Int := ((a.countP (fun x => !decide (x ∈ b)) : Nat) : Int)
theorem lackC_le (a b : List Int) : 0 ≤ lackC a b ∧ lackC a b ≤ (a.length : Int) := by
  unfold lackC
  have := List.countP_le_length (p := fun x => !decide (x ∈ b)) (l := a)
  omega
def movesP (a b : DT31) : Int := lackC a.2.1 b.2.1 + lackC b.2.1 a.2.1
theorem movesP_le {a b : DT31} (ha : a.2.1.length ≤ 1048576) (hb : b.2.1.length ≤ 1048576) : 0 ≤ movesP a b ∧ movesP a b ≤ 2097152 := by
  have h1 := lackC_le a.2.1 b.2.1
  have h2 := lackC_le b.2.1 a.2.1
  unfold movesP
  omega
theorem lacking_ev (a b : List Int) (ha : a.length ≤ 1048576) (hb : b.length ≤ 1048576) : Ev (fun k => impl_lacking k a b) (lackC a b) := by
  have e := loop_cnt (t := .int .i64) (l := a) (R := fun n i v => E2 (fun k m => impl_lacking.l0 k m b n a ((List.length a : Nat) : Int) i) v) (fun x => !decide (x ∈ b)) id 0 (fun n h1 h2 => E2.eq (fun k m => impl_lacking.l0_eq k m b n a _ _) (E2.neg (by omega) E2.ret))
    (fun i n hi hp h1 h2 v e => by
      refine E2.eq (fun k m => impl_lacking.l0_eq k m b n a _ _) (E2.pos (by omega) (E2.pos (by omega) (E2.pos (by omega) (E2.bind (contains_ev _ _ hb) (E2.pos (by simpa using hp) ?_)))))
      simp only [wrapS (show i < 9223372036854775807 by omega), wrapI (show -9223372036854775808 ≤ n + 1 by omega) (show n + 1 ≤ 9223372036854775807 by omega)]
      exact e)
    (fun i n hi hp h1 h2 v e => by
      refine E2.eq (fun k m => impl_lacking.l0_eq k m b n a _ _) (E2.pos (by omega) (E2.pos (by omega) (E2.pos (by omega) (E2.bind (contains_ev _ _ hb) (E2.neg (by simpa using hp) ?_)))))
      simp only [wrapS (show i < 9223372036854775807 by omega)]
      exact e) 0 (by omega) (by omega)
  refine (Ev.eq (fun k => impl_lacking_eq k a b) (Ev.loop (f := fun k m => impl_lacking.l0 k m b 0 a ((List.length a : Nat) : Int) 0) e)).val ?_
  show (0 : Int) + _ = _
  rw [Int.zero_add]
  rfl
theorem implMoves_ev (a b : DT31) (ha : a.2.1.length ≤ 1048576) (hb : b.2.1.length ≤ 1048576) : Ev (fun k => impl_Moves k a b) (movesP a b) := by
  have h := movesP_le ha hb
  unfold movesP at h ⊢
  refine Ev.eq (fun k => impl_Moves_eq k a b) (Ev.bind (lacking_ev _ _ ha hb) (Ev.bind (lacking_ev _ _ hb ha) (Ev.ret.val ?_)))
  exact wrapI (by omega) (by omega)
def workP (w : DT31) : Prop := (1 ≤ (w.1 : Int) ∧ (w.1 : Int) ≤ 10000000) ∧ ascP w.2.1 1 99
def worksP (l : List DT31) : Prop := (∀ i : Nat, i < l.length → workP (rd T31 l (i : Int))) ∧ l.length ≤ 6
def SmW (l : List DT31) : Prop := l.length ≤ 1048576 ∧ ∀ i : Nat, i < l.length → (rd T31 l (i : Int)).2.1.length ≤ 1048576
theorem implWork_ev (w : DT31) (h : w.2.1.length ≤ 1048576) : ∃ r, Ev (fun k => impl_AreWorks_1 k w) r ∧ (r = true ↔ ¬ workP w) := by
  obtain ⟨a, ea, ha⟩ := asc_ev w.2.1 1 99 h
  by_cases c : 1 ≤ (w.1 : Int) ∧ (w.1 : Int) ≤ 10000000
  · refine ⟨decide (¬ a = true), Ev.eq (fun k => impl_AreWorks_1_eq k w) (Ev.bind (inRange_ev _ _ _) (Ev.neg (by simpa using c) (Ev.bind ea Ev.ret))), ?_⟩
    unfold workP
    rw [decide_eq_true_eq, ha]
    exact ⟨fun h1 h2 => h1 h2.2, fun h1 h2 => h1 ⟨c, h2⟩⟩
  · refine ⟨true, Ev.eq (fun k => impl_AreWorks_1_eq k w) (Ev.bind (inRange_ev _ _ _) (Ev.pos (by simp only [decide_eq_true_eq]; exact c) Ev.ret)), ?_⟩
    exact ⟨fun _ h2 => c h2.1, fun _ => rfl⟩
noncomputable def badW (l : List DT31) (i : Nat) : Bool := @decide (¬ workP (rd T31 l (i : Int))) (Classical.propDecidable _)
theorem badW_iff (l : List DT31) (i : Nat) : badW l i = true ↔ ¬ workP (rd T31 l (i : Int)) := by
  unfold badW
  exact @decide_eq_true_iff _ (Classical.propDecidable _)
theorem implWorks_ev (l : List DT31) (hs : SmW l) : ∃ r, Ev (fun k => impl_AreWorks k l) r ∧ (r = true ↔ worksP l) := by
  have hl := hs.1
  have er := loop_firstR (R := fun i v => E2 (fun k m => slices_IndexFunc_impl_Work_31.l0 k m l ((List.length l : Nat) : Int) i) v) (n := l.length) (badW l) (E2.eq (fun k m => slices_IndexFunc_impl_Work_31.l0_eq k m l _ _) (E2.neg (by omega) E2.ret)) (fun i hi hq v e => by
    obtain ⟨r, h1, h2⟩ := implWork_ev (rd T31 l (i : Int)) (hs.2 i hi)
    have hr : r = false := by
      cases r with
      | false => rfl
      | true => have := (badW_iff l i).2 (h2.1 rfl); rw [hq] at this; cases this
    subst hr
    refine E2.eq (fun k m => slices_IndexFunc_impl_Work_31.l0_eq k m l _ _) (E2.pos (by omega) (E2.pos (by omega) (E2.pos (by omega) (E2.bind h1 (E2.neg (by simp) ?_)))))
    simp only [wrapS (show i < 9223372036854775807 by omega)]; exact e) (fun i hi hq => by
    obtain ⟨r, h1, h2⟩ := implWork_ev (rd T31 l (i : Int)) (hs.2 i hi)
    have hr : r = true := h2.2 ((badW_iff l i).1 hq)
    subst hr
    exact E2.eq (fun k m => slices_IndexFunc_impl_Work_31.l0_eq k m l _ _) (E2.pos (by omega) (E2.pos (by omega) (E2.pos (by omega) (E2.bind h1 (E2.pos rfl E2.ret))))))
  have e1 : Ev (fun k => slices_IndexFunc_impl_Work_31 k l) (firstI (badW l) l.length) := Ev.eq (fun k => slices_IndexFunc_impl_Work_31_eq k l) (Ev.loop (f := fun k m => slices_IndexFunc_impl_Work_31.l0 k m l ((List.length l : Nat) : Int) 0) er)
  have e2 : Ev (fun k => slices_ContainsFunc_impl_Work_31 k l) (decide (0 ≤ firstI (badW l) l.length)) := Ev.eq (fun k => slices_ContainsFunc_impl_Work_31_eq k l) (Ev.bind e1 Ev.ret)
  by_cases c : l.length ≤ 6
  · refine ⟨_, Ev.eq (fun k => impl_AreWorks_eq k l) (Ev.pos (by omega) (Ev.bind e2 Ev.ret)), ?_⟩
    rw [decide_eq_true_eq, decide_eq_true_eq, firstI_nonneg]
    unfold worksP
    constructor
    · intro h
      refine ⟨fun i hi => Classical.byContradiction fun h' => h ⟨i, hi, (badW_iff l i).2 h'⟩, c⟩
    · rintro ⟨h, _⟩ ⟨i, hi, h'⟩
      exact (badW_iff l i).1 h' (h i hi)
  · refine ⟨false, Ev.eq (fun k => impl_AreWorks_eq k l) (Ev.neg (by omega) Ev.ret), ?_⟩
    exact ⟨fun h => by (cases h), fun h => absurd h.2 c⟩
def costGo (l : List DT31) (t : List Int) : Nat → Nat → Int → Int
  | 0, _, n => n
  | d + 1, i, n => if ¬ (LE.le (α := Int) 0 (rd (.int .i64) t (i : Int)) ∧ LE.le (α := Int) (rd (.int .i64) t (i : Int)) ((l.length : Int) - 1)) then -1 else if (rd (.int .i64) t (i : Int) : Int) ∈ t.take i then -1 else
      if 0 < i then costGo l t d (i + 1) (n + movesP (rd T31 l (rd (.int .i64) t ((i - 1 : Nat) : Int))) (rd T31 l (rd (.int .i64) t (i : Int)))) else costGo l t d (i + 1) n
noncomputable def costP (l : List DT31) (t : List Int) : Int := @ite _ (worksP l ∧ t.length = l.length) (Classical.propDecidable _) (costGo l t t.length 0 0) (-1)
def inR (l : List DT31) (x : Int) : Prop := 0 ≤ x ∧ x < (l.length : Int)
theorem smW_rd {l : List DT31} (hs : SmW l) {x : Int} (h : inR l x) : (rd T31 l x).2.1.length ≤ 1048576 := by
  obtain ⟨i, rfl⟩ : ∃ i : Nat, x = (i : Int) := ⟨x.toNat, by have := h.1; omega⟩
  exact hs.2 i (by have := h.2; omega)
theorem costP_of {l : List DT31} {t : List Int} (h : worksP l) (ht : t.length = l.length) : costP l t = costGo l t t.length 0 0 := by
  unfold costP
  exact @if_pos _ (Classical.propDecidable _) ⟨h, ht⟩ _ _ _
theorem costP_not {l : List DT31} {t : List Int} (h : ¬ (worksP l ∧ t.length = l.length)) : costP l t = -1 := by
  unfold costP
  exact @if_neg _ (Classical.propDecidable _) h _ _ _
theorem implCost_ev (l : List DT31) (t : List Int) (hs : SmW l) (ht : t.length ≤ 1048576) : Ev (fun k => impl_OrderCost k l t) (costP l t) := by
  have hl := hs.1
  obtain ⟨r, er, hr⟩ := implWorks_ev l hs
  have key : ∀ (d i : Nat) (n : Int), i + d = t.length → (∀ j : Nat, j < i → inR l (rd (.int .i64) t (j : Int))) → 0 ≤ n → n ≤ 2097152 * (i : Int) → E2 (fun k m => impl_OrderCost.l0 k m l t n t ((List.length t : Nat) : Int) (i : Int)) (costGo l t d i n) := by
    intro d
    induction d with
    | zero => intro i n hi hj h1 h2; exact E2.eq (fun k m => impl_OrderCost.l0_eq k m l t n t _ _) (E2.neg (by omega) E2.ret)
    | succ d ih =>
      intro i n hi hj h1 h2
      unfold costGo
      refine E2.eq (fun k m => impl_OrderCost.l0_eq k m l t n t _ _) (E2.pos (by omega) (E2.pos (by omega) (E2.pos (by omega) ?_)))
      simp only [wrapI (show -9223372036854775808 ≤ ((l.length : Nat) : Int) - 1 by omega) (show ((l.length : Nat) : Int) - 1 ≤ 9223372036854775807 by omega), Int.toNat_natCast, Int.toNat_zero, Nat.sub_zero, List.drop_zero]
      refine E2.bind (inRange_ev _ _ _) ?_
      by_cases c1 : LE.le (α := Int) 0 (rd (.int .i64) t (i : Int)) ∧ LE.le (α := Int) (rd (.int .i64) t (i : Int)) ((l.length : Int) - 1)
      · rw [if_neg (by simpa using c1)]
        refine E2.neg (by simpa using c1) (E2.pos (by omega) (E2.pos (by omega) (E2.bind (contains_ev _ _ (by rw [List.length_take]; omega)) ?_)))
        have hin : inR l (rd (.int .i64) t (i : Int)) := ⟨c1.1, by have := c1.2; omega⟩
        have hj' : ∀ j : Nat, j < i + 1 → inR l (rd (.int .i64) t (j : Int)) := fun j hj1 => by
          by_cases h : j = i
          · subst h; exact hin
          · exact hj j (by omega)
        by_cases c2 : (rd (.int .i64) t (i : Int) : Int) ∈ t.take i
        · rw [if_pos c2]
          exact E2.pos (by simpa using c2) E2.ret
        · rw [if_neg c2]
          refine E2.neg (by simpa using c2) ?_
          simp only [wrapS (show i < 9223372036854775807 by omega)]
          by_cases c3 : 0 < i
          · have hp := hj (i - 1) (by omega)
            have hm := movesP_le (smW_rd hs hp) (smW_rd hs hin)
            rw [if_pos c3]
            refine E2.pos (by omega) ?_
            simp only [wrapP c3 (show i < 9223372036854775807 by omega)]
            refine E2.pos (by omega) (E2.pos (by omega) (E2.pos hp.1 (E2.pos hp.2 (E2.pos hin.1 (E2.pos hin.2 (E2.bind (implMoves_ev _ _ (smW_rd hs hp) (smW_rd hs hin)) ?_))))))
            generalize movesP (rd T31 l (rd (.int .i64) t ((i - 1 : Nat) : Int))) (rd T31 l (rd (.int .i64) t (i : Int))) = q at hm ⊢
            simp only [wrapI (show -9223372036854775808 ≤ n + q by omega) (show n + q ≤ 9223372036854775807 by omega)]
            exact ih (i + 1) (n + q) (by omega) hj' (by omega) (by omega)
          · rw [if_neg c3]
            exact E2.neg (by omega) (ih (i + 1) n (by omega) hj' h1 (by omega))
      · rw [if_pos c1]
        exact E2.pos (by simp only [decide_eq_true_eq]; exact c1) E2.ret
  refine Ev.eq (fun k => impl_OrderCost_eq k l t) (Ev.bind er ?_)
  by_cases c : worksP l
  · refine Ev.neg (by simpa using hr.2 c) ?_
    by_cases c2 : t.length = l.length
    · rw [costP_of c c2]
      exact Ev.neg (by omega) (Ev.loop (f := fun k m => impl_OrderCost.l0 k m l t 0 t ((List.length t : Nat) : Int) 0) (key t.length 0 0 (by omega) (fun j hj => absurd hj (by omega)) (by omega) (by omega)))
    · rw [costP_not (fun h => c2 h.2)]
      exact Ev.pos (by omega) Ev.ret
  · rw [costP_not (fun h => c h.1)]
    exact Ev.pos (fun h => c (hr.1 h)) Ev.ret
noncomputable def evB (f : Nat → Option Bool) : Bool := @decide (Ev f true) (Classical.propDecidable _)
theorem evB_of {f : Nat → Option Bool} {r : Bool} (h : Ev f r) : evB f = r := by
  unfold evB
  cases r with
  | true => exact @decide_eq_true _ (Classical.propDecidable _) h
  | false =>
    refine @decide_eq_false _ (Classical.propDecidable _) fun h2 => ?_
    obtain ⟨K, hK⟩ := h
    obtain ⟨M, hM⟩ := h2
    have e1 := hK (max K M) (by omega)
    have e2 := hM (max K M) (by omega)
    rw [e1] at e2
    cases e2
noncomputable def awB (l : List DT31) : Bool := evB fun k => impl_AreWorks k l
noncomputable def costF (l : List DT31) (t : List Int) : Int := costP l t
theorem bestOk_sm {l : List DT31} (h : bestOk l) : SmW l := ⟨h.1, fun i hi => by rw [rd_at hi]; exact h.2 _ (List.getElem_mem hi)⟩
theorem aw_at (l : List DT31) (h : SmW l) : (∃ k, impl_AreWorks k l = some (awB l)) ∧ (awB l = true ↔ worksP l) := by
  obtain ⟨r, e, hr⟩ := implWorks_ev l h
  unfold awB
  rw [evB_of e]
  exact ⟨Ev.at e, hr⟩
theorem cost_at (l : List DT31) (t : List Int) (h : SmW l) (ht : t.length ≤ 1048576) : ∃ k, impl_OrderCost k l t = some (costF l t) := Ev.at (implCost_ev l t h ht)
theorem clone_at (t : List Int) (ht : t.length ≤ 1048576) : ∃ k, impl_clone_int k t = some t := Ev.at ((Ev.eq (fun k => impl_clone_int_eq k t) (Ev.pos (by simp only [List.length_nil]; omega) Ev.ret)).val (List.nil_append t))
theorem con_at (t : List Int) (x : Int) (h : t.length ≤ 1048576) : ∃ k, slices_Contains___int_int k t x = some (decide (x ∈ t)) := Ev.at (contains_ev t x h)
end Go.QBest
