/- The plain half of FnExactBestOrder. No condition. -/
import Derived.Test.YtejaegogaaiblaaQFnExactBestOrder
import Derived.Test.YtejaegogaaiblaaHFnExactBestOrder
import Derived.Test.YtejaegogaaiblaaPur
import Derived.Test.YtejaegogaaiblaaPureBest
import Derived.Test.YtejaegogaaiblaaBestF
set_option linter.unusedVariables false
set_option linter.unusedSimpArgs false
open Go Go.Flat
namespace Go.QFnExactBestOrder
theorem l1In_ev (x lo hi : Int) : Ev (fun k => spec_l1In k x lo hi) (decide (lo ≤ x ∧ x ≤ hi)) := by
  by_cases c : lo ≤ x
  · exact Ev.eq (fun k => spec_l1In_eq k x lo hi) (Ev.pos c (Ev.ret.val (by simp [c])))
  · exact Ev.eq (fun k => spec_l1In_eq k x lo hi) (Ev.neg c (Ev.ret.val (by simp [c])))
theorem dec_of {f : Nat → Option Bool} {p : Prop} [d : Decidable p] (h : ∃ r, Ev f r ∧ (r = true ↔ p)) : Ev f (decide p) := by
  obtain ⟨r, e, hr⟩ := h
  exact e.val (by rw [Bool.eq_iff_iff, hr]; simp)
theorem wrapP {i : Nat} (h : 0 < i) (h2 : i < 9223372036854775807) : IntKind.wrap .i64 ((i : Int) - 1) = ((i - 1 : Nat) : Int) := by
  rw [wrapI (by omega) (by omega)]; omega
theorem has_ev (l : List Int) (x : Int) (hl : l.length ≤ 1048576) : Ev (fun k => spec_l27Has k l x) (decide (x ∈ l)) := by
  refine dec_of ?_
  obtain ⟨r, er, hr⟩ := loop_anyR (R := fun i v => E2 (fun k m => spec_l27Has.l0 k m l x i) v) (n := l.length) (fun i => Eq (α := Int) (rd (.int .i64) l (i : Int)) x) (E2.eq (fun k m => spec_l27Has.l0_eq k m l x _) (E2.neg (by omega) E2.ret)) (fun i hi hq v e => by
    refine E2.eq (fun k m => spec_l27Has.l0_eq k m l x _) (E2.pos (by omega) (E2.pos (by omega) (E2.pos (by omega) (E2.neg hq ?_))))
    simp only [wrapS (show i < 9223372036854775807 by omega)]; exact e) (fun i hi hq => E2.eq (fun k m => spec_l27Has.l0_eq k m l x _) (E2.pos (by omega) (E2.pos (by omega) (E2.pos (by omega) (E2.pos hq E2.ret)))))
  refine ⟨r, Ev.eq (fun k => spec_l27Has_eq k l x) (Ev.loop (f := fun k m => spec_l27Has.l0 k m l x 0) er), hr.trans ⟨fun ⟨i, hi, h⟩ => ?_, fun h => ?_⟩⟩
  · rw [← h, rd_at hi]; exact List.getElem_mem hi
  · obtain ⟨i, hi, h⟩ := List.mem_iff_getElem.1 h
    exact ⟨i, hi, by rw [rd_at hi]; exact h⟩
def QA (lo hi : Int) (l : List Int) (i : Nat) : Prop := (LE.le (α := Int) lo (rd (.int .i64) l (i : Int)) ∧ LE.le (α := Int) (rd (.int .i64) l (i : Int)) hi) ∧ (0 < i → LT.lt (α := Int) (rd (.int .i64) l ((i - 1 : Nat) : Int)) (rd (.int .i64) l (i : Int)))
def ascP (l : List Int) (lo hi : Int) : Prop := ∀ i, i < l.length → QA lo hi l i
theorem notA {lo hi : Int} {l : List Int} {i : Nat} (h : ¬ QA lo hi l i) (h1 : LE.le (α := Int) lo (rd (.int .i64) l (i : Int)) ∧ LE.le (α := Int) (rd (.int .i64) l (i : Int)) hi) : 0 < i ∧ ¬ LT.lt (α := Int) (rd (.int .i64) l ((i - 1 : Nat) : Int)) (rd (.int .i64) l (i : Int)) := by
  refine ⟨?_, fun c => h ⟨h1, fun _ => c⟩⟩
  rcases Nat.eq_zero_or_pos i with hi | hi
  · exact absurd ⟨h1, fun h' => by omega⟩ h
  · exact hi
theorem Ev.uniq {α : Type} {f : Nat → Option α} {a b : α} (h : Ev f a) (k : Ev f b) : a = b := by
  obtain ⟨K, h⟩ := h
  obtain ⟨M, k⟩ := k
  have h1 := h (max K M) (by omega)
  rw [k (max K M) (by omega)] at h1
  exact (Option.some.inj h1).symm
theorem loop_cnt {t : Ty} {l : List t.den} {R : Int → Int → Int → Prop} (p : t.den → Bool) (g : Int → Int) (B : Int) (hend : ∀ n, 0 ≤ n → n ≤ B + (l.length : Int) → R n (l.length : Int) (g n))
    (hyes : ∀ (i : Nat) n, i < l.length → p (rd t l (i : Int)) = true → 0 ≤ n → n ≤ B + (i : Int) → ∀ v, R (n + 1) ((i + 1 : Nat) : Int) v → R n (i : Int) v) (hno : ∀ (i : Nat) n, i < l.length → p (rd t l (i : Int)) = false → 0 ≤ n → n ≤ B + (i : Int) → ∀ v, R n ((i + 1 : Nat) : Int) v → R n (i : Int) v) (n : Int) (h0 : 0 ≤ n) (hB : n ≤ B) :
    R n 0 (g (n + ((l.countP p : Nat) : Int))) := by
  have key : ∀ (d i : Nat) (n : Int), i + d = l.length → 0 ≤ n → n ≤ B + (i : Int) → R n (i : Int) (g (n + (((l.drop i).countP p : Nat) : Int))) := by
    intro d
    induction d with
    | zero =>
      intro i n hi h1 h2
      obtain rfl : i = l.length := by omega
      rw [List.drop_length]
      have := hend n h1 h2
      simpa using this
    | succ d ih =>
      intro i n hi h1 h2
      have hlt : i < l.length := by omega
      have hd : l.drop i = rd t l (i : Int) :: l.drop (i + 1) := by rw [rd_at hlt]; exact List.drop_eq_getElem_cons hlt
      rw [hd, List.countP_cons]
      cases hp : p (rd t l (i : Int)) with
      | true =>
        refine hyes i n hlt hp h1 h2 _ ?_
        have := ih (i + 1) (n + 1) (by omega) (by omega) (by omega)
        rw [show n + (((l.drop (i + 1)).countP p + if true = true then 1 else 0 : Nat) : Int) = n + 1 + (((l.drop (i + 1)).countP p : Nat) : Int) by simp; omega]
        exact this
      | false =>
        refine hno i n hlt hp h1 h2 _ ?_
        have := ih (i + 1) n (by omega) (by omega) (by omega)
        simpa using this
  exact key l.length 0 n (by omega) h0 (by simpa using hB)
def lackC (a b : List Int) : Int := ((a.countP (fun x => !decide (x ∈ b)) : Nat) : Int)
theorem lackC_le (a b : List Int) : 0 ≤ lackC a b ∧ lackC a b ≤ (a.length : Int) := by
  unfold lackC
  have := List.countP_le_length (p := fun x => !decide (x ∈ b)) (l := a)
  omega
def movesP (a b : DT31) : Int := lackC a.2.1 b.2.1 + lackC b.2.1 a.2.1
theorem movesP_le {a b : DT31} (ha : a.2.1.length ≤ 1048576) (hb : b.2.1.length ≤ 1048576) : 0 ≤ movesP a b ∧ movesP a b ≤ 2097152 := by
  have h1 := lackC_le a.2.1 b.2.1
  have h2 := lackC_le b.2.1 a.2.1
  unfold movesP
  omega
theorem specMoves_ev (a b : DT31) (ha : a.2.1.length ≤ 1048576) (hb : b.2.1.length ≤ 1048576) : Ev (fun k => spec_Moves k a b) (movesP a b) := by
  have e1 := fun (i6 : Int) (n : Int) (h0 : 0 ≤ n) (hn : n ≤ 1048576) => loop_cnt (t := .int .i64) (l := b.2.1) (R := fun n i v => E2 (fun k m => spec_Moves.l1 k m n i6 i a.1 a.2.1 b.1 b.2.1) v) (fun x => !decide (x ∈ a.2.1)) id 1048576 (fun n h1 h2 => E2.eq (fun k m => spec_Moves.l1_eq k m n i6 _ _ _ _ _) (E2.neg (by omega) E2.ret))
    (fun i n hi hp h1 h2 v e => by
      refine E2.eq (fun k m => spec_Moves.l1_eq k m n i6 _ _ _ _ _) (E2.pos (by omega) (E2.pos (by omega) (E2.pos (by omega) (E2.bind (has_ev _ _ ha) (E2.pos (by simpa using hp) ?_)))))
      simp only [wrapS (show i < 9223372036854775807 by omega), wrapI (show -9223372036854775808 ≤ n + 1 by omega) (show n + 1 ≤ 9223372036854775807 by omega)]
      exact e)
    (fun i n hi hp h1 h2 v e => by
      refine E2.eq (fun k m => spec_Moves.l1_eq k m n i6 _ _ _ _ _) (E2.pos (by omega) (E2.pos (by omega) (E2.pos (by omega) (E2.bind (has_ev _ _ ha) (E2.neg (by simpa using hp) ?_)))))
      simp only [wrapS (show i < 9223372036854775807 by omega)]
      exact e) n h0 hn
  have e := loop_cnt (t := .int .i64) (l := a.2.1) (R := fun n i v => E2 (fun k m => spec_Moves.l0 k m n i a.1 a.2.1 b.1 b.2.1) v) (fun x => !decide (x ∈ b.2.1)) (fun n => n + lackC b.2.1 a.2.1) 0 (fun n h1 h2 => E2.eq (fun k m => spec_Moves.l0_eq k m n _ _ _ _ _) (E2.neg (by omega) (E2.of (Ev.loop (f := fun k m => spec_Moves.l1 k m n _ 0 a.1 a.2.1 b.1 b.2.1) (e1 _ n h1 (by omega))))))
    (fun i n hi hp h1 h2 v e => by
      refine E2.eq (fun k m => spec_Moves.l0_eq k m n _ _ _ _ _) (E2.pos (by omega) (E2.pos (by omega) (E2.pos (by omega) (E2.bind (has_ev _ _ hb) (E2.pos (by simpa using hp) ?_)))))
      simp only [wrapS (show i < 9223372036854775807 by omega), wrapI (show -9223372036854775808 ≤ n + 1 by omega) (show n + 1 ≤ 9223372036854775807 by omega)]
      exact e)
    (fun i n hi hp h1 h2 v e => by
      refine E2.eq (fun k m => spec_Moves.l0_eq k m n _ _ _ _ _) (E2.pos (by omega) (E2.pos (by omega) (E2.pos (by omega) (E2.bind (has_ev _ _ hb) (E2.neg (by simpa using hp) ?_)))))
      simp only [wrapS (show i < 9223372036854775807 by omega)]
      exact e) 0 (by omega) (by omega)
  refine (Ev.eq (fun k => spec_Moves_eq k a b) (Ev.loop (f := fun k m => spec_Moves.l0 k m 0 0 a.1 a.2.1 b.1 b.2.1) e)).val ?_
  show (0 : Int) + _ + _ = _
  rw [Int.zero_add]
  rfl
theorem ids_ev (l : List Int) (hl : l.length ≤ 1048576) : ∃ r, Ev (fun k => spec_l30Ids k l) r ∧ (r = true ↔ ascP l 1 99) := by
  obtain ⟨r, er, hr⟩ := loop_allR (R := fun i v => E2 (fun k m => spec_l30Ids.l0 k m l i) v) (n := l.length) (QA 1 99 l) true (E2.eq (fun k m => spec_l30Ids.l0_eq k m l _) (E2.neg (by omega) E2.ret)) (fun i hi' hq v e => by
    obtain ⟨h1, h2⟩ := hq
    refine E2.eq (fun k m => spec_l30Ids.l0_eq k m l _) (E2.pos (by omega) (E2.pos (by omega) (E2.pos (by omega) (E2.bind (l1In_ev _ _ _) (E2.neg (by simpa using h1) ?_)))))
    simp only [wrapS (show i < 9223372036854775807 by omega)]
    by_cases c : 0 < i
    · refine E2.pos (by omega) ?_
      simp only [wrapP c (show i < 9223372036854775807 by omega)]
      have := h2 c
      exact E2.pos (by omega) (E2.pos (by omega) (E2.pos (by omega) (E2.pos (by omega) (E2.neg (by omega) e))))
    · exact E2.neg (by omega) e) (fun i hi' hq => by
    refine E2.eq (fun k m => spec_l30Ids.l0_eq k m l _) (E2.pos (by omega) (E2.pos (by omega) (E2.pos (by omega) (E2.bind (l1In_ev _ _ _) ?_))))
    by_cases h1 : LE.le (α := Int) 1 (rd (.int .i64) l (i : Int)) ∧ LE.le (α := Int) (rd (.int .i64) l (i : Int)) 99
    · obtain ⟨c, c1⟩ := notA hq h1
      refine E2.neg (by simpa using h1) (E2.pos (by omega) ?_)
      simp only [wrapP c (show i < 9223372036854775807 by omega)]
      exact E2.pos (by omega) (E2.pos (by omega) (E2.pos (by omega) (E2.pos (by omega) (E2.pos (by omega) E2.ret))))
    · exact E2.pos (by simp only [decide_eq_true_eq]; exact h1) E2.ret)
  exact ⟨r, Ev.eq (fun k => spec_l30Ids_eq k l) (Ev.loop (f := fun k m => spec_l30Ids.l0 k m l 0) er), hr.trans ⟨fun h => h.1, fun h => ⟨h, rfl⟩⟩⟩
def workP (w : DT31) : Prop := (1 ≤ (w.1 : Int) ∧ (w.1 : Int) ≤ 10000000) ∧ ascP w.2.1 1 99
def worksP (l : List DT31) : Prop := (∀ i : Nat, i < l.length → workP (rd T31 l (i : Int))) ∧ l.length ≤ 6
def SmW (l : List DT31) : Prop := l.length ≤ 1048576 ∧ ∀ i : Nat, i < l.length → (rd T31 l (i : Int)).2.1.length ≤ 1048576
theorem specWorks_ev (l : List DT31) (hs : SmW l) : ∃ r, Ev (fun k => spec_AreWorks k l) r ∧ (r = true ↔ worksP l) := by
  have hl := hs.1
  obtain ⟨r, er, hr⟩ := loop_allR (R := fun i v => E2 (fun k m => spec_AreWorks.l0 k m l i) v) (n := l.length) (fun i => workP (rd T31 l (i : Int))) (decide (((l.length : Nat) : Int) ≤ 6)) (E2.eq (fun k m => spec_AreWorks.l0_eq k m l _) (E2.neg (by omega) E2.ret)) (fun i hi hq v e => by
    obtain ⟨h1, h2⟩ := hq
    obtain ⟨r, e1, h3⟩ := ids_ev (rd T31 l (i : Int)).2.1 (hs.2 i hi)
    refine E2.eq (fun k m => spec_AreWorks.l0_eq k m l _) (E2.pos (by omega) (E2.pos (by omega) (E2.pos (by omega) (E2.bind (l1In_ev _ _ _) (E2.neg (by simpa using h1) (E2.pos (by omega) (E2.pos (by omega) (E2.bind e1 (E2.neg (by simpa using h3.2 h2) ?_)))))))))
    simp only [wrapS (show i < 9223372036854775807 by omega)]
    exact e) (fun i hi hq => by
    obtain ⟨r, e1, h3⟩ := ids_ev (rd T31 l (i : Int)).2.1 (hs.2 i hi)
    refine E2.eq (fun k m => spec_AreWorks.l0_eq k m l _) (E2.pos (by omega) (E2.pos (by omega) (E2.pos (by omega) (E2.bind (l1In_ev _ _ _) ?_))))
    by_cases h1 : LE.le (α := Int) 1 (rd T31 l (i : Int)).1 ∧ LE.le (α := Int) (rd T31 l (i : Int)).1 10000000
    · exact E2.neg (by simpa using h1) (E2.pos (by omega) (E2.pos (by omega) (E2.bind e1 (E2.pos (fun c => hq ⟨h1, h3.1 c⟩) E2.ret))))
    · exact E2.pos (by simp only [decide_eq_true_eq]; exact h1) E2.ret)
  refine ⟨r, Ev.eq (fun k => spec_AreWorks_eq k l) (Ev.loop (f := fun k m => spec_AreWorks.l0 k m l 0) er), hr.trans ?_⟩
  rw [decide_eq_true_eq]
  unfold worksP
  exact ⟨fun h => ⟨h.1, by omega⟩, fun h => ⟨h.1, by omega⟩⟩
def costGo (l : List DT31) (t : List Int) : Nat → Nat → Int → Int
  | 0, _, n => n
  | d + 1, i, n => if ¬ (LE.le (α := Int) 0 (rd (.int .i64) t (i : Int)) ∧ LE.le (α := Int) (rd (.int .i64) t (i : Int)) ((l.length : Int) - 1)) then -1 else if (rd (.int .i64) t (i : Int) : Int) ∈ t.take i then -1 else
      if 0 < i then costGo l t d (i + 1) (n + movesP (rd T31 l (rd (.int .i64) t ((i - 1 : Nat) : Int))) (rd T31 l (rd (.int .i64) t (i : Int)))) else costGo l t d (i + 1) n
noncomputable def costP (l : List DT31) (t : List Int) : Int := @ite _ (worksP l ∧ t.length = l.length) (Classical.propDecidable _) (costGo l t t.length 0 0) (-1)
def inR (l : List DT31) (x : Int) : Prop := 0 ≤ x ∧ x < (l.length : Int)
theorem smW_rd {l : List DT31} (hs : SmW l) {x : Int} (h : inR l x) : (rd T31 l x).2.1.length ≤ 1048576 := by
  obtain ⟨i, rfl⟩ : ∃ i : Nat, x = (i : Int) := ⟨x.toNat, by have := h.1; omega⟩
  exact hs.2 i (by have := h.2; omega)
theorem costP_of {l : List DT31} {t : List Int} (h : worksP l) (ht : t.length = l.length) : costP l t = costGo l t t.length 0 0 := by
  unfold costP
  exact @if_pos _ (Classical.propDecidable _) ⟨h, ht⟩ _ _ _
theorem costP_not {l : List DT31} {t : List Int} (h : ¬ (worksP l ∧ t.length = l.length)) : costP l t = -1 := by
  unfold costP
  exact @if_neg _ (Classical.propDecidable _) h _ _ _
theorem specCost_ev (l : List DT31) (t : List Int) (hs : SmW l) (ht : t.length ≤ 1048576) : Ev (fun k => spec_OrderCost k l t) (costP l t) := by
  have hl := hs.1
  obtain ⟨r, er, hr⟩ := specWorks_ev l hs
  have key : ∀ (d i : Nat) (n : Int), i + d = t.length → (∀ j : Nat, j < i → inR l (rd (.int .i64) t (j : Int))) → 0 ≤ n → n ≤ 2097152 * (i : Int) → E2 (fun k m => spec_OrderCost.l0 k m l t n (i : Int)) (costGo l t d i n) := by
    intro d
    induction d with
    | zero => intro i n hi hj h1 h2; exact E2.eq (fun k m => spec_OrderCost.l0_eq k m l t n _) (E2.neg (by omega) E2.ret)
    | succ d ih =>
      intro i n hi hj h1 h2
      unfold costGo
      refine E2.eq (fun k m => spec_OrderCost.l0_eq k m l t n _) (E2.pos (by omega) (E2.pos (by omega) (E2.pos (by omega) ?_)))
      simp only [wrapI (show -9223372036854775808 ≤ ((l.length : Nat) : Int) - 1 by omega) (show ((l.length : Nat) : Int) - 1 ≤ 9223372036854775807 by omega), Int.toNat_natCast, Int.toNat_zero, Nat.sub_zero, List.drop_zero]
      refine E2.bind (l1In_ev _ _ _) ?_
      by_cases c1 : LE.le (α := Int) 0 (rd (.int .i64) t (i : Int)) ∧ LE.le (α := Int) (rd (.int .i64) t (i : Int)) ((l.length : Int) - 1)
      · rw [if_neg (by simpa using c1)]
        refine E2.neg (by simpa using c1) (E2.pos (by omega) (E2.pos (by omega) (E2.pos (by omega) (E2.pos (by omega) (E2.bind (has_ev _ _ (by rw [List.length_take]; omega)) ?_)))))
        have hin : inR l (rd (.int .i64) t (i : Int)) := ⟨c1.1, by have := c1.2; omega⟩
        have hj' : ∀ j : Nat, j < i + 1 → inR l (rd (.int .i64) t (j : Int)) := fun j hj1 => by
          by_cases h : j = i
          · subst h; exact hin
          · exact hj j (by omega)
        by_cases c2 : (rd (.int .i64) t (i : Int) : Int) ∈ t.take i
        · rw [if_pos c2]
          exact E2.pos (by simpa using c2) E2.ret
        · rw [if_neg c2]
          refine E2.neg (by simpa using c2) ?_
          simp only [wrapS (show i < 9223372036854775807 by omega)]
          by_cases c3 : 0 < i
          · have hp := hj (i - 1) (by omega)
            have hm := movesP_le (smW_rd hs hp) (smW_rd hs hin)
            rw [if_pos c3]
            refine E2.pos (by omega) ?_
            simp only [wrapP c3 (show i < 9223372036854775807 by omega)]
            refine E2.pos (by omega) (E2.pos (by omega) (E2.pos hp.1 (E2.pos hp.2 (E2.pos (by omega) (E2.pos (by omega) (E2.pos hin.1 (E2.pos hin.2 (E2.bind (specMoves_ev _ _ (smW_rd hs hp) (smW_rd hs hin)) ?_))))))))
            generalize movesP (rd T31 l (rd (.int .i64) t ((i - 1 : Nat) : Int))) (rd T31 l (rd (.int .i64) t (i : Int))) = q at hm ⊢
            simp only [wrapI (show -9223372036854775808 ≤ n + q by omega) (show n + q ≤ 9223372036854775807 by omega)]
            exact ih (i + 1) (n + q) (by omega) hj' (by omega) (by omega)
          · rw [if_neg c3]
            exact E2.neg (by omega) (ih (i + 1) n (by omega) hj' h1 (by omega))
      · rw [if_pos c1]
        exact E2.pos (by simp only [decide_eq_true_eq]; exact c1) E2.ret
  refine Ev.eq (fun k => spec_OrderCost_eq k l t) (Ev.bind er ?_)
  by_cases c : worksP l
  · refine Ev.neg (by simpa using hr.2 c) ?_
    by_cases c2 : t.length = l.length
    · rw [costP_of c c2]
      exact Ev.neg (by omega) (Ev.loop (f := fun k m => spec_OrderCost.l0 k m l t 0 0) (key t.length 0 0 (by omega) (fun j hj => absurd hj (by omega)) (by omega) (by omega)))
    · rw [costP_not (fun h => c2 h.2)]
      exact Ev.pos (by omega) Ev.ret
  · rw [costP_not (fun h => c h.1)]
    exact Ev.pos (fun h => c (hr.1 h)) Ev.ret
/-- An order: its numbers are within range, no number twice. -/
def goodO (l : List DT31) (t : List Int) : Prop := t.Nodup ∧ ∀ x ∈ t, inR l x
theorem costGo_nonneg {l : List DT31} {t : List Int} (hs : SmW l) (hg : goodO l t) : ∀ (d i : Nat) (n : Int), i + d = t.length → 0 ≤ n → 0 ≤ costGo l t d i n := by
  intro d
  induction d with
  | zero => intro i n _ h; exact h
  | succ d ih =>
    intro i n hi h
    have hlt : i < t.length := by omega
    have hr : ∀ j : Nat, j < t.length → inR l (rd (.int .i64) t (j : Int)) := fun j hj => by rw [rd_at hj]; exact hg.2 _ (List.getElem_mem hj)
    have h1 := hr i hlt
    unfold costGo
    rw [if_neg (by have := h1.1; have := h1.2; simp only [Classical.not_not]; exact ⟨h1.1, by omega⟩), if_neg (by
      rw [rd_at hlt]
      intro hm
      obtain ⟨j, hj, he⟩ := List.mem_iff_getElem.1 hm
      rw [List.getElem_take] at he
      have hj2 : j < i := by rw [List.length_take] at hj; omega
      have := (List.getElem_inj hg.1).1 he
      omega)]
    by_cases c : 0 < i
    · rw [if_pos c]
      have := movesP_le (smW_rd hs (hr (i - 1) (by omega))) (smW_rd hs h1)
      exact ih (i + 1) _ (by omega) (by omega)
    · rw [if_neg c]
      exact ih (i + 1) _ (by omega) h
theorem costP_nonneg {l : List DT31} {t : List Int} (hs : SmW l) (hw : worksP l) (hg : goodO l t) (ht : t.length = l.length) : 0 ≤ costP l t := by
  rw [costP_of hw ht]
  exact costGo_nonneg hs hg _ _ _ (by omega) (Int.le_refl _)
/-- What is kept on the way: no order yet, or an order with its cost. -/
def keptB (l : List DT31) (s : List Int × Int) : Prop := (s.2 < 0 ∧ s.1 = []) ∨ (s.1.length = l.length ∧ s.2 = costP l s.1 ∧ 0 ≤ s.2 ∧ goodO l s.1)
theorem goodO_snoc {l : List DT31} {t : List Int} {i : Nat} (h : goodO l t) (hi : i < l.length) (hn : ((i : Int)) ∉ t) : goodO l (t ++ [(i : Int)]) := by
  refine ⟨?_, fun x hx => ?_⟩
  · rw [List.nodup_append]
    refine ⟨h.1, by simp, fun a ha b hb => ?_⟩
    have : b = (i : Int) := by simpa using hb
    rw [this]
    exact fun e => hn (e ▸ ha)
  · rcases List.mem_append.1 hx with h1 | h1
    · exact h.2 x h1
    · have : x = (i : Int) := by simpa using h1
      rw [this]
      exact ⟨by omega, by omega⟩
theorem best_kept {l : List DT31} (hs : SmW l) (hw : worksP l) : ∀ (d : Nat) (t : List Int) (s : List Int × Int), t.length + d = l.length → goodO l t → keptB l s → keptB l (bestN (costP l) l.length d s t) := by
  intro d
  induction d with
  | zero =>
    intro t s ht hg hk
    unfold bestN
    split
    · exact .inr ⟨by omega, rfl, costP_nonneg hs hw hg (by omega), hg⟩
    · exact hk
  | succ d ih =>
    intro t s ht hg hk
    show keptB l (bestGo (fun s t => bestN (costP l) l.length d s t) l.length t l.length s)
    have key : ∀ (e i : Nat) (s : List Int × Int), i + e = l.length → keptB l s → keptB l (bestGo (fun s t => bestN (costP l) l.length d s t) l.length t (l.length - i) s) := by
      intro e
      induction e with
      | zero => intro i s hi hk; rw [show l.length - i = 0 by omega]; exact hk
      | succ e ihe =>
        intro i s hi hk
        rw [bestGo_step (by omega)]
        split
        · exact ihe (i + 1) s (by omega) hk
        · rename_i hn
          exact ihe (i + 1) _ (by omega) (ih _ s (by simp; omega) (goodO_snoc hg (by omega) (by simpa using hn)) hk)
    have := key l.length 0 s (by omega) hk
    rwa [Nat.sub_zero] at this
theorem specTry_ev {l : List DT31} (hs : SmW l) (hw : worksP l) (hp : 0 < l.length) : ∀ (d : Nat) (t : List Int) (s : List Int × Int), t.length + d = l.length → goodO l t → keptB l s → Ev (fun k => spec_l38Try k l t s.1) (bestN (costP l) l.length d s t).1 := by
  have hl := hs.1
  intro d
  induction d with
  | zero =>
    intro t s ht hg hk
    refine Ev.eq (fun k => spec_l38Try_eq k l t s.1) (Ev.pos (by omega) ?_)
    have y : s.2 < 0 ∨ costP l t < s.2 → (bestN (costP l) l.length 0 s t) = (t, costP l t) := fun h => by unfold bestN; exact if_pos h
    have n : ¬ (s.2 < 0 ∨ costP l t < s.2) → (bestN (costP l) l.length 0 s t) = s := fun h => by unfold bestN; exact if_neg h
    rcases hk with ⟨h1, h2⟩ | ⟨h1, h2, h3, h4⟩
    · rw [y (.inl h1), h2]
      exact Ev.pos (by simp only [List.length_nil]; omega) (Ev.pos (by simp only [List.length_nil]; omega) (Ev.ret.val (List.nil_append t)))
    · refine Ev.neg (by omega) (Ev.bind (specCost_ev l t hs (by omega)) (Ev.bind (specCost_ev l s.1 hs (by omega)) ?_))
      rw [← h2]
      by_cases c : costP l t < s.2
      · rw [y (.inr c)]
        exact Ev.pos c (Ev.pos (by simp only [List.length_nil]; omega) (Ev.ret.val (List.nil_append t)))
      · rw [n (fun h => by rcases h with h | h <;> omega)]
        exact Ev.neg c Ev.ret
  | succ d ih =>
    intro t s ht hg hk
    refine Ev.eq (fun k => spec_l38Try_eq k l t s.1) (Ev.neg (by omega) ?_)
    have key : ∀ (e i : Nat) (s : List Int × Int), i + e = l.length → keptB l s → E2 (fun k m => spec_l38Try.l0 k m l t (i : Int) s.1) (bestGo (fun s t => bestN (costP l) l.length d s t) l.length t (l.length - i) s).1 := by
      intro e
      induction e with
      | zero =>
        intro i s hi hk
        rw [show l.length - i = 0 by omega]
        exact E2.eq (fun k m => spec_l38Try.l0_eq k m l t _ _) (E2.neg (by omega) E2.ret)
      | succ e ihe =>
        intro i s hi hk
        rw [bestGo_step (by omega)]
        refine E2.eq (fun k m => spec_l38Try.l0_eq k m l t _ _) (E2.pos (by omega) (E2.bind (has_ev t _ (by omega)) ?_))
        simp only [wrapS (show i < 9223372036854775807 by omega)]
        by_cases c : ((i : Int)) ∈ t
        · rw [if_pos (by simpa using c)]
          exact E2.neg (by simpa using c) (ihe (i + 1) s (by omega) hk)
        · rw [if_neg (by simpa using c)]
          have hg2 := goodO_snoc hg (show i < l.length by omega) c
          refine E2.pos (by simpa using c) (E2.pos (by simp only [List.length_nil]; omega) (E2.pos (by simp only [List.length_nil, List.nil_append, List.length_cons]; omega) (E2.bind ((ih (t ++ [(i : Int)]) s (by simp; omega) hg2 hk)) ?_)))
          exact ihe (i + 1) _ (by omega) (best_kept hs hw d _ s (by simp; omega) hg2 hk)
    have := key l.length 0 s (by omega) hk
    rw [Nat.sub_zero] at this
    exact Ev.loop (f := fun k m => spec_l38Try.l0 k m l t 0 s.1) this
noncomputable def orderP (l : List DT31) : List Int := @ite _ (worksP l) (Classical.propDecidable _) (bestN (costP l) l.length l.length ([], -1) []).1 []
theorem orderP_of {l : List DT31} (h : worksP l) : orderP l = (bestN (costP l) l.length l.length ([], -1) []).1 := by
  unfold orderP
  exact @if_pos _ (Classical.propDecidable _) h _ _ _
theorem orderP_not {l : List DT31} (h : ¬ worksP l) : orderP l = [] := by
  unfold orderP
  exact @if_neg _ (Classical.propDecidable _) h _ _ _
theorem goodO_nil (l : List DT31) : goodO l [] := ⟨List.nodup_nil, fun x h => by cases h⟩
theorem order_kept {l : List DT31} (hs : SmW l) (h : worksP l) : keptB l (bestN (costP l) l.length l.length ([], -1) []) := best_kept hs h _ _ _ (by simp) (goodO_nil l) (.inl ⟨by omega, rfl⟩)
theorem order_len (l : List DT31) (hs : SmW l) : (orderP l).length ≤ 1048576 := by
  by_cases h : worksP l
  · rw [orderP_of h]
    rcases order_kept hs h with ⟨_, h2⟩ | ⟨h2, _⟩
    · rw [h2]; exact Nat.zero_le _
    · rw [h2]; exact hs.1
  · rw [orderP_not h]; exact Nat.zero_le _
theorem specOrder_ev (l : List DT31) (hs : SmW l) : Ev (fun k => spec_BestOrder k l) (orderP l) := by
  obtain ⟨r, er, hr⟩ := specWorks_ev l hs
  refine Ev.eq (fun k => spec_BestOrder_eq k l) (Ev.bind er ?_)
  by_cases c : worksP l
  · rw [orderP_of c]
    refine Ev.neg (by simpa using hr.2 c) ?_
    by_cases c2 : l.length = 0
    · refine Ev.pos (by omega) (Ev.ret.val ?_)
      rw [c2]
      unfold bestN
      rw [if_pos (.inl (by omega))]
    · exact Ev.neg (by omega) (Ev.bind (specTry_ev hs c (by omega) l.length [] ([], -1) (by simp) (goodO_nil l) (.inl ⟨by omega, rfl⟩)) Ev.ret)
  · rw [orderP_not c]
    exact Ev.pos (fun h => c (hr.1 h)) Ev.ret
theorem costGo_same (l : List DT31) (t : List Int) : ∀ (d i : Nat) (n : Int), Go.QBest.costGo l t d i n = costGo l t d i n
  | 0, _, _ => rfl
  | d + 1, i, n => by
    unfold Go.QBest.costGo costGo
    rw [costGo_same l t d, costGo_same l t d]
    rfl
theorem costF_same (l : List DT31) : Go.QBest.costF l = costP l := by
  funext t
  have hw : Go.QBest.worksP l ↔ worksP l := Iff.rfl
  show Go.QBest.costP l t = costP l t
  by_cases h : worksP l ∧ t.length = l.length
  · rw [costP_of h.1 h.2, Go.QBest.costP_of (hw.2 h.1) h.2, costGo_same]
  · rw [costP_not h, Go.QBest.costP_not (fun h2 => h ⟨hw.1 h2.1, h2.2⟩)]
theorem implOrder_ev (l : List DT31) (hs : SmW l) : Ev (fun k => impl_BestOrder k l) (orderP l) := by
  have hok : bestOk l := ⟨hs.1, fun p hp => by obtain ⟨i, hi, rfl⟩ := List.mem_iff_getElem.1 hp; have := hs.2 i hi; rwa [rd_at hi] at this⟩
  have haw := (Go.QBest.aw_at l ⟨hs.1, hs.2⟩).2
  have hw : Go.QBest.worksP l ↔ worksP l := Iff.rfl
  refine Ev.eq (fun k => (impl_BestOrder_eq k l).trans (primBest_eq _ _ hok)) (Ev.ret.val ?_)
  unfold bestR
  by_cases c : worksP l
  · rw [orderP_of c, if_pos (haw.2 (hw.2 c))]
    rw [costF_same]
  · rw [orderP_not c, if_neg (fun h => c (hw.1 (haw.1 h)))]
theorem bk_works {l : List DT31} (h : Bk (.dlist T31) l) : SmW l := ⟨h.1, fun i hi => (bk_rd (t := T31) (l := l) h hi).2.1.1⟩
theorem pure (a0 : (List DT31)) (w0 : Wd (.dlist T31) a0) : ∃ k, laws_FnExactBestOrder k a0 = some true := by
  refine Ev.at ?_
  obtain ⟨r0, e0, h0⟩ := laws_szWorkS_ok a0 w0 1048576 (by omega) (by omega)
  by_cases c0 : r0 < 0
  · exact Ev.eq (fun k => laws_FnExactBestOrder_eq k a0) (Ev.bind e0 (Ev.pos c0 Ev.ret))
  replace h0 := h0.resolve_left c0
  have b0 := h0.2.2
  have hs := bk_works b0
  have to := laws_toWorkS_id _ b0
  have hv := order_len a0 hs
  have e1 := specOrder_ev a0 hs
  have e2 := implOrder_ev a0 hs
  generalize orderP a0 = v at hv e1 e2
  have eq := laws_eqIntS_selfL v (by omega)
  have m1 := laws_markWorkS_ev a0 b0 1 (by omega) (by omega)
  have m2 := laws_markIntS_ev v (by omega) 1 (by omega) (by omega)
  have hh : Ev (fun k => laws_heldIntS k (marks (fun q : Int => (q : Int)) 1 v.length 1) 1) (1 + 1 * v.length) :=
    (laws_heldIntS_ev _ (by rw [marks_len]; omega) 1 (by omega) (by omega) (by rw [marks_len])).val (by rw [marks_len])
  have mh : ¬ ((1 : Int) + sumG laws_markWorkS_cnt a0 < 0) := by
    have := sumG_nonneg (l := a0) (cnt := laws_markWorkS_cnt) (fun e _ => by unfold laws_markWorkS_cnt; omega)
    omega
  refine Ev.eq (fun k => laws_FnExactBestOrder_eq k a0) ?_
  refine Ev.bind e0 ?_
  refine Ev.neg c0 ?_
  refine Ev.bind to ?_
  refine Ev.bind e1 ?_
  refine Ev.bind to ?_
  refine Ev.bind e2 ?_
  refine Ev.bind eq ?_
  refine Ev.neg (by simp) ?_
  refine Ev.bind to ?_
  refine Ev.bind (laws_eqWorkS_self _ b0) ?_
  refine Ev.neg (by simp) ?_
  refine Ev.bind m1 ?_
  refine Ev.neg mh ?_
  refine Ev.bind eq ?_
  refine Ev.neg (by simp) ?_
  refine Ev.bind m2 ?_
  refine Ev.bind hh ?_
  refine Ev.neg (by omega) ?_
  refine Ev.neg (by simp) ?_
  refine Ev.bind to ?_
  refine Ev.bind e2 ?_
  refine Ev.bind eq ?_
  refine Ev.neg (by simp) ?_
  refine Ev.bind hh ?_
  refine Ev.neg (by omega) ?_
  refine Ev.neg (by simp) ?_
  exact Ev.ret
end Go.QFnExactBestOrder
