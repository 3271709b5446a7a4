/- The law's helpers. No condition. -/
import Derived.Test.YtkfnhbdloidfmaaQFnExactWriteAll
import Derived.Test.YtkfnhbdloidfmaaPur
set_option linter.unusedVariables false
set_option linter.unusedSimpArgs false
open Go Go.Flat
namespace Go.QFnExactWriteAll
theorem laws_szEventS_ok (x : (List DT135)) (w : Wd (.list T135) x) (n : Int) (hn : 0 ≤ n) (hm : n ≤ 1048576) : ∃ r, Ev (fun k => laws_szEventS k x n) r ∧ (r < 0 ∨ 0 ≤ r ∧ r ≤ n ∧ Bk (.list T135) x) := by
  have hl : x.length ≤ 9223372036854775807 := w.1
  by_cases c : n - (x.length : Int) < 0
  · exact ⟨-1, Ev.eq (fun k => laws_szEventS_eq k x n) (Ev.pos (by rw [wrapI (by omega) (by omega)]; omega) Ev.ret), .inl (by omega)⟩
  · exact ⟨n - x.length, Ev.eq (fun k => laws_szEventS_eq k x n) (Ev.neg (by rw [wrapI (by omega) (by omega)]; omega) (Ev.ret.val (wrapI (by omega) (by omega)))), .inr ⟨by omega, by omega, bk_list (by omega) fun i hi => bk_flat _ rfl⟩⟩
theorem laws_toEvent_id (x : DT135) (h : Bk T135 x) : Ev (fun k => laws_toEvent k x) x := Ev.eq (fun k => laws_toEvent_eq k x) Ev.ret
theorem laws_toEventS_id (x : (List DT135)) (h : Bk (.list T135) x) : Ev (fun k => laws_toEventS k x) x := by
  have hL : x.length ≤ 1048576 := h.1
  refine Ev.eq (fun k => laws_toEventS_eq k x) (Ev.pos (by omega) (Ev.pos (by omega) (Ev.pos (by omega) (Ev.loop (f := fun k m => laws_toEventS.l0 k m x 0 (List.replicate (Int.toNat ((List.length x : Nat) : Int)) (Ty.dflt T135))) ?_))))
  have key := loop_map (t := T135) (u := T135) (F := fun i y k m => laws_toEventS.l0 k m x i y) (x := x) (fun a => a) (fun y => E2.eq (fun k m => laws_toEventS.l0_eq k m x _ y) (E2.neg (by omega) E2.ret)) (fun i y hi hy v e => by
    refine E2.eq (fun k m => laws_toEventS.l0_eq k m x _ y) (E2.pos (by omega) (E2.pos (by omega) (E2.pos (by omega) (E2.bind (laws_toEvent_id _ (bk_rd h hi)) (E2.pos (by omega) (E2.pos (by omega) ?_))))))
    rw [wrapS (by omega), Int.toNat_natCast]; exact e) (List.replicate (Int.toNat ((List.length x : Nat) : Int)) (Ty.dflt T135)) (by simp)
  exact key.val (by simp)
theorem laws_eqEvent_self (x : DT135) (h : Bk T135 x) : Ev (fun k => laws_eqEvent k x x) true := Ev.eq (fun k => laws_eqEvent_eq k x x) (Ev.neg (by simp) (Ev.neg (by simp) (Ev.neg (by simp) (Ev.neg (by simp) Ev.ret))))
theorem laws_eqTempo_self (x : DT71) (h : Bk T71 x) : Ev (fun k => laws_eqTempo k x x) true := Ev.eq (fun k => laws_eqTempo_eq k x x) (Ev.neg (by simp) (Ev.neg (by simp) Ev.ret))
theorem laws_eqIntS_self (x : (List Int)) (h : Bk (.list (.int .i64)) x) : Ev (fun k => laws_eqIntS k x x) true := by
  have hL : x.length ≤ 1048576 := h.1
  refine Ev.eq (fun k => laws_eqIntS_eq k x x) (Ev.neg (by simp) (Ev.loop (f := fun k m => laws_eqIntS.l0 k m x x 0) ?_))
  obtain ⟨r, er, hr⟩ := loop_all (F := fun i k m => laws_eqIntS.l0 k m x x i) (n := x.length) (fun _ => True) (E2.eq (fun k m => laws_eqIntS.l0_eq k m x x _) (E2.neg (by omega) E2.ret)) (fun i hi _ v e => by
    refine E2.eq (fun k m => laws_eqIntS.l0_eq k m x x _) (E2.pos (by omega) (E2.pos (by omega) (E2.pos (by omega) (E2.pos (by omega) (E2.pos (by omega) (E2.neg (by simp) ?_))))))
    rw [wrapS (by omega)]; exact e) (fun i hi hq => (hq trivial).elim)
  exact er.val (hr.2 fun _ _ => trivial)
theorem laws_eqPlayer_self (x : DT107) (h : Bk T107 x) : Ev (fun k => laws_eqPlayer k x x) true := Ev.eq (fun k => laws_eqPlayer_eq k x x) (Ev.neg (by simp) (Ev.neg (by simp) (Ev.neg (by simp) (Ev.bind (laws_eqIntS_self _ h.2.2.2.1) (Ev.neg (by simp) Ev.ret)))))
theorem laws_eqMark_self (x : DT139) (h : Bk T139 x) : Ev (fun k => laws_eqMark k x x) true := Ev.eq (fun k => laws_eqMark_eq k x x) (Ev.neg (by simp) (Ev.neg (by simp) (Ev.neg (by simp) (Ev.neg (by simp) (Ev.neg (by simp) Ev.ret)))))
theorem laws_eqHappening_self (x : DT141) (h : Bk T141 x) : Ev (fun k => laws_eqHappening k x x) true := Ev.eq (fun k => laws_eqHappening_eq k x x) (Ev.neg (by simp) (Ev.neg (by simp) (Ev.bind (laws_eqEvent_self _ h.2.2.1) (Ev.neg (by simp) (Ev.bind (laws_eqTempo_self _ h.2.2.2.1) (Ev.neg (by simp) (Ev.bind (laws_eqPlayer_self _ h.2.2.2.2.1) (Ev.neg (by simp) (Ev.bind (laws_eqMark_self _ h.2.2.2.2.2.1) (Ev.neg (by simp) Ev.ret))))))))))
theorem laws_eqHappeningS_self (x : (List DT141)) (h : Bk (.dlist T141) x) : Ev (fun k => laws_eqHappeningS k x x) true := by
  have hL : x.length ≤ 1048576 := h.1
  refine Ev.eq (fun k => laws_eqHappeningS_eq k x x) (Ev.neg (by simp) (Ev.loop (f := fun k m => laws_eqHappeningS.l0 k m x x 0) ?_))
  obtain ⟨r, er, hr⟩ := loop_all (F := fun i k m => laws_eqHappeningS.l0 k m x x i) (n := x.length) (fun _ => True) (E2.eq (fun k m => laws_eqHappeningS.l0_eq k m x x _) (E2.neg (by omega) E2.ret)) (fun i hi _ v e => by
    refine E2.eq (fun k m => laws_eqHappeningS.l0_eq k m x x _) (E2.pos (by omega) (E2.pos (by omega) (E2.pos (by omega) (E2.pos (by omega) (E2.pos (by omega) (E2.bind (laws_eqHappening_self _ (bk_rd h hi)) (E2.neg (by simp) ?_)))))))
    rw [wrapS (by omega)]; exact e) (fun i hi hq => (hq trivial).elim)
  exact er.val (hr.2 fun _ _ => trivial)
theorem laws_eqEventS_self (x : (List DT135)) (h : Bk (.list T135) x) : Ev (fun k => laws_eqEventS k x x) true := by
  have hL : x.length ≤ 1048576 := h.1
  refine Ev.eq (fun k => laws_eqEventS_eq k x x) (Ev.neg (by simp) (Ev.loop (f := fun k m => laws_eqEventS.l0 k m x x 0) ?_))
  obtain ⟨r, er, hr⟩ := loop_all (F := fun i k m => laws_eqEventS.l0 k m x x i) (n := x.length) (fun _ => True) (E2.eq (fun k m => laws_eqEventS.l0_eq k m x x _) (E2.neg (by omega) E2.ret)) (fun i hi _ v e => by
    refine E2.eq (fun k m => laws_eqEventS.l0_eq k m x x _) (E2.pos (by omega) (E2.pos (by omega) (E2.pos (by omega) (E2.pos (by omega) (E2.pos (by omega) (E2.bind (laws_eqEvent_self _ (bk_rd h hi)) (E2.neg (by simp) ?_)))))))
    rw [wrapS (by omega)]; exact e) (fun i hi hq => (hq trivial).elim)
  exact er.val (hr.2 fun _ _ => trivial)
theorem laws_markEventS_ev (x : (List DT135)) (h : x.length ≤ 1048576) (q0 : Int) (h0 : 0 ≤ q0) (h1 : q0 ≤ 8796093022208) : Ev (fun k => laws_markEventS k x q0) (q0 + 4 * x.length, marks (fun q : Int => ((q, (q + 1, (q + 2, (q + 3, ())))) : DT135)) 4 x.length q0) := by
  refine Ev.eq (fun k => laws_markEventS_eq k x q0) (Ev.loop (f := fun k m => laws_markEventS.l0 k m q0 0 x) (loop_mark (t := T135) (F := fun q i s k m => laws_markEventS.l0 k m q i s) (fun q : Int => ((q, (q + 1, (q + 2, (q + 3, ())))) : DT135)) 4 17592186044416 (by omega) (fun q s hs => E2.eq (fun k m => laws_markEventS.l0_eq k m _ _ _) (E2.neg (by omega) E2.ret)) (fun i q s hi hs hq hB v e => ?_) q0 h0 (by omega)))
  · refine E2.eq (fun k m => laws_markEventS.l0_eq k m _ _ _) ?_
    have w1 : IntKind.wrap .i64 (q + 1) = q + 1 := (wrapI (by omega) (by omega)).trans (by omega)
    have w2 : IntKind.wrap .i64 (q + 1 + 1) = q + 2 := (wrapI (by omega) (by omega)).trans (by omega)
    have w3 : IntKind.wrap .i64 (q + 2 + 1) = q + 3 := (wrapI (by omega) (by omega)).trans (by omega)
    have w4 : IntKind.wrap .i64 (q + 3 + 1) = q + 4 := (wrapI (by omega) (by omega)).trans (by omega)
    refine E2.pos (by first | omega | ((repeat rw [setAt_len]); omega)) ?_
    refine E2.pos (by first | omega | ((repeat rw [setAt_len]); omega)) ?_
    refine E2.pos (by first | omega | ((repeat rw [setAt_len]); omega)) ?_
    refine E2.pos (by first | omega | ((repeat rw [setAt_len]); omega)) ?_
    refine E2.pos (by first | omega | ((repeat rw [setAt_len]); omega)) ?_
    refine E2.pos (by first | omega | ((repeat rw [setAt_len]); omega)) ?_
    refine E2.pos (by first | omega | ((repeat rw [setAt_len]); omega)) ?_
    refine E2.pos (by first | omega | ((repeat rw [setAt_len]); omega)) ?_
    refine E2.pos (by first | omega | ((repeat rw [setAt_len]); omega)) ?_
    simp only [w1, w2, w3, w4, wrapS (show i < 9223372036854775807 by omega), setAt_comp (show i < s.length by omega)]
    simp only [setAt_eq]
    exact e
theorem laws_markIntS_ev (x : (List Int)) (h : x.length ≤ 1048576) (q0 : Int) (h0 : 0 ≤ q0) (h1 : q0 ≤ 8796093022208) : Ev (fun k => laws_markIntS k x q0) (q0 + 1 * x.length, marks (fun q : Int => (q : Int)) 1 x.length q0) := by
  refine Ev.eq (fun k => laws_markIntS_eq k x q0) (Ev.loop (f := fun k m => laws_markIntS.l0 k m q0 0 x) (loop_mark (t := (.int .i64)) (F := fun q i s k m => laws_markIntS.l0 k m q i s) (fun q : Int => (q : Int)) 1 17592186044416 (by omega) (fun q s hs => E2.eq (fun k m => laws_markIntS.l0_eq k m _ _ _) (E2.neg (by omega) E2.ret)) (fun i q s hi hs hq hB v e => ?_) q0 h0 (by omega)))
  · refine E2.eq (fun k m => laws_markIntS.l0_eq k m _ _ _) ?_
    have w1 : IntKind.wrap .i64 (q + 1) = q + 1 := (wrapI (by omega) (by omega)).trans (by omega)
    refine E2.pos (by first | omega | ((repeat rw [setAt_len]); omega)) ?_
    refine E2.pos (by first | omega | ((repeat rw [setAt_len]); omega)) ?_
    refine E2.pos (by first | omega | ((repeat rw [setAt_len]); omega)) ?_
    simp only [w1, wrapS (show i < 9223372036854775807 by omega)]
    exact e
def laws_markHappeningS_mk : Int → DT141 → DT141 := fun q e => (q, (q + 1, ((q + 2, (q + 3, (q + 4, (q + 5, ())))), ((q + 6, (q + 7, ())), ((q + 8, (q + 9, (q + 10, (marks (fun q : Int => (q : Int)) 1 e.2.2.2.2.1.2.2.2.1.length (q + 11), ())))), (((q + 11 + 1 * ((e.2.2.2.2.1.2.2.2.1.length : Nat) : Int)), ((q + 11 + 1 * ((e.2.2.2.2.1.2.2.2.1.length : Nat) : Int)) + 1, ((q + 11 + 1 * ((e.2.2.2.2.1.2.2.2.1.length : Nat) : Int)) + 2, ((q + 11 + 1 * ((e.2.2.2.2.1.2.2.2.1.length : Nat) : Int)) + 3, ((q + 11 + 1 * ((e.2.2.2.2.1.2.2.2.1.length : Nat) : Int)) + 4, ()))))), ()))))))
def laws_markHappeningS_cnt : DT141 → Int := fun e => (16 : Int) + 1 * ((e.2.2.2.2.1.2.2.2.1.length : Nat) : Int)
theorem laws_markHappeningS_sum (x : (List DT141)) (h : Bk (.dlist T141) x) : sumG laws_markHappeningS_cnt x ≤ 1099528404992 := by
  have h1 : sumG laws_markHappeningS_cnt x ≤ 1048592 * (x.length : Int) := sumG_le fun e he => by
    have hb := h.2 e he
    have l0 : e.2.2.2.2.1.2.2.2.1.length ≤ 1048576 := hb.2.2.2.2.1.2.2.2.1.1
    show (16 : Int) + 1 * ((e.2.2.2.2.1.2.2.2.1.length : Nat) : Int) ≤ _
    omega
  have h2 : x.length ≤ 1048576 := h.1
  have h3 : (1048592 : Int) * (x.length : Int) ≤ 1048592 * 1048576 := Int.mul_le_mul_of_nonneg_left (by omega) (by omega)
  omega
theorem laws_markHappeningS_ev (x : (List DT141)) (h : Bk (.dlist T141) x) (q0 : Int) (h0 : 0 ≤ q0) (h1 : q0 ≤ 1048576) : Ev (fun k => laws_markHappeningS k x q0) (q0 + sumG laws_markHappeningS_cnt x, marksG laws_markHappeningS_mk laws_markHappeningS_cnt x q0) := by
  have hs := laws_markHappeningS_sum x h
  have h : Bk (.list T141) x := h
  refine Ev.eq (fun k => laws_markHappeningS_eq k x q0) (Ev.loop (f := fun k m => laws_markHappeningS.l0 k m q0 0 x) (loop_markG (t := T141) (F := fun q i s k m => laws_markHappeningS.l0 k m q i s) laws_markHappeningS_mk laws_markHappeningS_cnt 4398046511104 (fun e _ => by show 0 ≤ (16 : Int) + 1 * ((e.2.2.2.2.1.2.2.2.1.length : Nat) : Int); omega) (fun q s hs => E2.eq (fun k m => laws_markHappeningS.l0_eq k m _ _ _) (E2.neg (by omega) E2.ret)) (fun i q s hi hs hrd hq hB v ee => ?_) q0 h0 (by omega)))
  · have hL : x.length ≤ 1048576 := h.1
    have l0 : (rd T141 x (i : Int)).2.2.2.2.1.2.2.2.1.length ≤ 1048576 := (bk_rd h hi).2.2.2.2.1.2.2.2.1.1
    have hB : q + ((16 : Int) + 1 * (((rd T141 x (i : Int)).2.2.2.2.1.2.2.2.1.length : Nat) : Int)) ≤ 4398046511104 := hB
    have i0 : (0 : Int) ≤ (i : Int) := by omega
    have i1 : (i : Int) < ((s.length : Nat) : Int) := by omega
    refine E2.eq (fun k m => laws_markHappeningS.l0_eq k m _ _ _) ?_
    have b0 : 0 ≤ q := hq
    have c0 : q ≤ 8796093022208 := by omega
    have w1 : IntKind.wrap .i64 (q + 1) = q + 1 := wrapK0 b0 c0
    have w2 : IntKind.wrap .i64 (q + 1 + 1) = q + 2 := wrapK b0 c0 1 2 (by decide) rfl
    have w3 : IntKind.wrap .i64 (q + 2 + 1) = q + 3 := wrapK b0 c0 2 3 (by decide) rfl
    have w4 : IntKind.wrap .i64 (q + 3 + 1) = q + 4 := wrapK b0 c0 3 4 (by decide) rfl
    have w5 : IntKind.wrap .i64 (q + 4 + 1) = q + 5 := wrapK b0 c0 4 5 (by decide) rfl
    have w6 : IntKind.wrap .i64 (q + 5 + 1) = q + 6 := wrapK b0 c0 5 6 (by decide) rfl
    have w7 : IntKind.wrap .i64 (q + 6 + 1) = q + 7 := wrapK b0 c0 6 7 (by decide) rfl
    have w8 : IntKind.wrap .i64 (q + 7 + 1) = q + 8 := wrapK b0 c0 7 8 (by decide) rfl
    have w9 : IntKind.wrap .i64 (q + 8 + 1) = q + 9 := wrapK b0 c0 8 9 (by decide) rfl
    have w10 : IntKind.wrap .i64 (q + 9 + 1) = q + 10 := wrapK b0 c0 9 10 (by decide) rfl
    have w11 : IntKind.wrap .i64 (q + 10 + 1) = q + 11 := wrapK b0 c0 10 11 (by decide) rfl
    simp only [setAt_comp (show i < s.length by omega), rd_setAt (show i < s.length by omega), setAt_len, hrd, w1, w2, w3, w4, w5, w6, w7, w8, w9, w10, w11]
    refine E2.pos (by first | exact i0 | exact i1 | (rw [setAt_len]; exact i1)) ?_
    refine E2.pos (by first | exact i0 | exact i1 | (rw [setAt_len]; exact i1)) ?_
    refine E2.pos (by first | exact i0 | exact i1 | (rw [setAt_len]; exact i1)) ?_
    refine E2.pos (by first | exact i0 | exact i1 | (rw [setAt_len]; exact i1)) ?_
    refine E2.pos (by first | exact i0 | exact i1 | (rw [setAt_len]; exact i1)) ?_
    refine E2.pos (by first | exact i0 | exact i1 | (rw [setAt_len]; exact i1)) ?_
    refine E2.pos (by first | exact i0 | exact i1 | (rw [setAt_len]; exact i1)) ?_
    refine E2.pos (by first | exact i0 | exact i1 | (rw [setAt_len]; exact i1)) ?_
    refine E2.pos (by first | exact i0 | exact i1 | (rw [setAt_len]; exact i1)) ?_
    refine E2.pos (by first | exact i0 | exact i1 | (rw [setAt_len]; exact i1)) ?_
    refine E2.pos (by first | exact i0 | exact i1 | (rw [setAt_len]; exact i1)) ?_
    refine E2.pos (by first | exact i0 | exact i1 | (rw [setAt_len]; exact i1)) ?_
    refine E2.pos (by first | exact i0 | exact i1 | (rw [setAt_len]; exact i1)) ?_
    refine E2.pos (by first | exact i0 | exact i1 | (rw [setAt_len]; exact i1)) ?_
    refine E2.pos (by first | exact i0 | exact i1 | (rw [setAt_len]; exact i1)) ?_
    refine E2.pos (by first | exact i0 | exact i1 | (rw [setAt_len]; exact i1)) ?_
    refine E2.pos (by first | exact i0 | exact i1 | (rw [setAt_len]; exact i1)) ?_
    refine E2.pos (by first | exact i0 | exact i1 | (rw [setAt_len]; exact i1)) ?_
    refine E2.pos (by first | exact i0 | exact i1 | (rw [setAt_len]; exact i1)) ?_
    refine E2.pos (by first | exact i0 | exact i1 | (rw [setAt_len]; exact i1)) ?_
    refine E2.pos (by first | exact i0 | exact i1 | (rw [setAt_len]; exact i1)) ?_
    refine E2.pos (by first | exact i0 | exact i1 | (rw [setAt_len]; exact i1)) ?_
    refine E2.pos (by first | exact i0 | exact i1 | (rw [setAt_len]; exact i1)) ?_
    refine E2.pos (by first | exact i0 | exact i1 | (rw [setAt_len]; exact i1)) ?_
    refine E2.pos (by first | exact i0 | exact i1 | (rw [setAt_len]; exact i1)) ?_
    refine E2.bind (laws_markIntS_ev (rd T141 x (i : Int)).2.2.2.2.1.2.2.2.1 l0 (q + 11) (by clear w1 w2 w3 w4 w5 w6 w7 w8 w9 w10 w11; omega) (by clear w1 w2 w3 w4 w5 w6 w7 w8 w9 w10 w11; omega)) ?_
    have b1 : 0 ≤ (q + 11 + 1 * (((rd T141 x (i : Int)).2.2.2.2.1.2.2.2.1.length : Nat) : Int)) := by clear w1 w2 w3 w4 w5 w6 w7 w8 w9 w10 w11; omega
    have c1 : (q + 11 + 1 * (((rd T141 x (i : Int)).2.2.2.2.1.2.2.2.1.length : Nat) : Int)) ≤ 8796093022208 := by clear w1 w2 w3 w4 w5 w6 w7 w8 w9 w10 w11; omega
    have w12 : IntKind.wrap .i64 ((q + 11 + 1 * (((rd T141 x (i : Int)).2.2.2.2.1.2.2.2.1.length : Nat) : Int)) + 1) = (q + 11 + 1 * (((rd T141 x (i : Int)).2.2.2.2.1.2.2.2.1.length : Nat) : Int)) + 1 := wrapK0 b1 c1
    have w13 : IntKind.wrap .i64 ((q + 11 + 1 * (((rd T141 x (i : Int)).2.2.2.2.1.2.2.2.1.length : Nat) : Int)) + 1 + 1) = (q + 11 + 1 * (((rd T141 x (i : Int)).2.2.2.2.1.2.2.2.1.length : Nat) : Int)) + 2 := wrapK b1 c1 1 2 (by decide) rfl
    have w14 : IntKind.wrap .i64 ((q + 11 + 1 * (((rd T141 x (i : Int)).2.2.2.2.1.2.2.2.1.length : Nat) : Int)) + 2 + 1) = (q + 11 + 1 * (((rd T141 x (i : Int)).2.2.2.2.1.2.2.2.1.length : Nat) : Int)) + 3 := wrapK b1 c1 2 3 (by decide) rfl
    have w15 : IntKind.wrap .i64 ((q + 11 + 1 * (((rd T141 x (i : Int)).2.2.2.2.1.2.2.2.1.length : Nat) : Int)) + 3 + 1) = (q + 11 + 1 * (((rd T141 x (i : Int)).2.2.2.2.1.2.2.2.1.length : Nat) : Int)) + 4 := wrapK b1 c1 3 4 (by decide) rfl
    have w16 : IntKind.wrap .i64 ((q + 11 + 1 * (((rd T141 x (i : Int)).2.2.2.2.1.2.2.2.1.length : Nat) : Int)) + 4 + 1) = (q + 11 + 1 * (((rd T141 x (i : Int)).2.2.2.2.1.2.2.2.1.length : Nat) : Int)) + 5 := wrapK b1 c1 4 5 (by decide) rfl
    simp only [setAt_comp (show i < s.length by omega), rd_setAt (show i < s.length by omega), setAt_len, hrd, w1, w2, w3, w4, w5, w6, w7, w8, w9, w10, w11, w12, w13, w14, w15, w16]
    refine E2.pos (by first | exact i0 | exact i1 | (rw [setAt_len]; exact i1)) ?_
    refine E2.pos (by first | exact i0 | exact i1 | (rw [setAt_len]; exact i1)) ?_
    refine E2.pos (by first | exact i0 | exact i1 | (rw [setAt_len]; exact i1)) ?_
    refine E2.pos (by first | exact i0 | exact i1 | (rw [setAt_len]; exact i1)) ?_
    refine E2.pos (by first | exact i0 | exact i1 | (rw [setAt_len]; exact i1)) ?_
    refine E2.pos (by first | exact i0 | exact i1 | (rw [setAt_len]; exact i1)) ?_
    refine E2.pos (by first | exact i0 | exact i1 | (rw [setAt_len]; exact i1)) ?_
    refine E2.pos (by first | exact i0 | exact i1 | (rw [setAt_len]; exact i1)) ?_
    refine E2.pos (by first | exact i0 | exact i1 | (rw [setAt_len]; exact i1)) ?_
    refine E2.pos (by first | exact i0 | exact i1 | (rw [setAt_len]; exact i1)) ?_
    simp only [wrapS (show i < 9223372036854775807 by omega), setAt_eq, hrd]
    refine (congrArg (fun z => E2 z v) (funext fun k => funext fun m => ?_)).mp ee
    show laws_markHappeningS.l0 k m (q + ((16 : Int) + 1 * (((rd T141 x (i : Int)).2.2.2.2.1.2.2.2.1.length : Nat) : Int))) _ (s.set i ((q, (q + 1, ((q + 2, (q + 3, (q + 4, (q + 5, ())))), ((q + 6, (q + 7, ())), ((q + 8, (q + 9, (q + 10, (marks (fun q : Int => (q : Int)) 1 (rd T141 x (i : Int)).2.2.2.2.1.2.2.2.1.length (q + 11), ())))), (((q + 11 + 1 * (((rd T141 x (i : Int)).2.2.2.2.1.2.2.2.1.length : Nat) : Int)), ((q + 11 + 1 * (((rd T141 x (i : Int)).2.2.2.2.1.2.2.2.1.length : Nat) : Int)) + 1, ((q + 11 + 1 * (((rd T141 x (i : Int)).2.2.2.2.1.2.2.2.1.length : Nat) : Int)) + 2, ((q + 11 + 1 * (((rd T141 x (i : Int)).2.2.2.2.1.2.2.2.1.length : Nat) : Int)) + 3, ((q + 11 + 1 * (((rd T141 x (i : Int)).2.2.2.2.1.2.2.2.1.length : Nat) : Int)) + 4, ()))))), ())))))))) = _
    congr 1
    clear w1 w2 w3 w4 w5 w6 w7 w8 w9 w10 w11 w12 w13 w14 w15 w16
    omega
theorem laws_heldIntS_ev (x : (List Int)) (h : x.length ≤ 1048576) (q0 : Int) (h0 : 0 ≤ q0) (h1 : q0 ≤ 8796093022208) (hx : x = marks (fun q : Int => (q : Int)) 1 x.length q0) : Ev (fun k => laws_heldIntS k x q0) (q0 + 1 * x.length) := by
  refine Ev.eq (fun k => laws_heldIntS_eq k x q0) (Ev.loop (f := fun k m => laws_heldIntS.l0 k m x q0 0) (loop_held (t := (.int .i64)) (F := fun q i k m => laws_heldIntS.l0 k m x q i) (fun q : Int => (q : Int)) 1 17592186044416 (by omega) (fun q => E2.eq (fun k m => laws_heldIntS.l0_eq k m _ _ _) (E2.neg (by omega) E2.ret)) (fun i q hi hq hB hr v e => ?_) q0 h0 (by omega) hx))
  refine E2.eq (fun k m => laws_heldIntS.l0_eq k m _ _ _) ?_
  have w1 : IntKind.wrap .i64 (q + 1) = q + 1 := (wrapI (by omega) (by omega)).trans (by omega)
  simp only [w1, wrapS (show i < 9223372036854775807 by omega), hr]
  refine E2.pos (by omega) ?_
  refine E2.pos (by omega) ?_
  refine E2.pos (by omega) ?_
  refine E2.neg (by simp) ?_
  exact e
theorem laws_heldHappeningS_ev (x : (List DT141)) (h : Bk (.dlist T141) x) (q0 : Int) (h0 : 0 ≤ q0) (h1 : q0 ≤ 1048576) : Ev (fun k => laws_heldHappeningS k (marksG laws_markHappeningS_mk laws_markHappeningS_cnt x q0) q0) (q0 + sumG laws_markHappeningS_cnt x) := by
  have hs := laws_markHappeningS_sum x h
  have h : Bk (.list T141) x := h
  have hll : (marksG laws_markHappeningS_mk laws_markHappeningS_cnt x q0).length = x.length := marksG_len _ _ _ _
  generalize hy : marksG laws_markHappeningS_mk laws_markHappeningS_cnt x q0 = y at hll
  refine Ev.eq (fun k => laws_heldHappeningS_eq k y q0) (Ev.loop (f := fun k m => laws_heldHappeningS.l0 k m y q0 0) (loop_heldG (t := T141) (x := x) (F := fun q i k m => laws_heldHappeningS.l0 k m y q i) laws_markHappeningS_mk laws_markHappeningS_cnt 4398046511104 (fun e _ => by show 0 ≤ (16 : Int) + 1 * ((e.2.2.2.2.1.2.2.2.1.length : Nat) : Int); omega) hll (fun q => E2.eq (fun k m => laws_heldHappeningS.l0_eq k m _ _ _) (E2.neg (by omega) E2.ret)) (fun i q hi hq hB hr v ee => ?_) q0 h0 (by omega) hy.symm))
  have hL : x.length ≤ 1048576 := h.1
  have l0 : (rd T141 x (i : Int)).2.2.2.2.1.2.2.2.1.length ≤ 1048576 := (bk_rd h hi).2.2.2.2.1.2.2.2.1.1
  have hB : q + ((16 : Int) + 1 * (((rd T141 x (i : Int)).2.2.2.2.1.2.2.2.1.length : Nat) : Int)) ≤ 4398046511104 := hB
  have hr : rd T141 y (i : Int) = ((q, (q + 1, ((q + 2, (q + 3, (q + 4, (q + 5, ())))), ((q + 6, (q + 7, ())), ((q + 8, (q + 9, (q + 10, (marks (fun q : Int => (q : Int)) 1 (rd T141 x (i : Int)).2.2.2.2.1.2.2.2.1.length (q + 11), ())))), (((q + 11 + 1 * (((rd T141 x (i : Int)).2.2.2.2.1.2.2.2.1.length : Nat) : Int)), ((q + 11 + 1 * (((rd T141 x (i : Int)).2.2.2.2.1.2.2.2.1.length : Nat) : Int)) + 1, ((q + 11 + 1 * (((rd T141 x (i : Int)).2.2.2.2.1.2.2.2.1.length : Nat) : Int)) + 2, ((q + 11 + 1 * (((rd T141 x (i : Int)).2.2.2.2.1.2.2.2.1.length : Nat) : Int)) + 3, ((q + 11 + 1 * (((rd T141 x (i : Int)).2.2.2.2.1.2.2.2.1.length : Nat) : Int)) + 4, ()))))), ()))))))) := hr
  have i0 : (0 : Int) ≤ (i : Int) := by omega
  have i1 : (i : Int) < ((y.length : Nat) : Int) := by omega
  refine E2.eq (fun k m => laws_heldHappeningS.l0_eq k m _ _ _) ?_
  have b0 : 0 ≤ q := hq
  have c0 : q ≤ 8796093022208 := by omega
  have w1 : IntKind.wrap .i64 (q + 1) = q + 1 := wrapK0 b0 c0
  have w2 : IntKind.wrap .i64 (q + 1 + 1) = q + 2 := wrapK b0 c0 1 2 (by decide) rfl
  have w3 : IntKind.wrap .i64 (q + 2 + 1) = q + 3 := wrapK b0 c0 2 3 (by decide) rfl
  have w4 : IntKind.wrap .i64 (q + 3 + 1) = q + 4 := wrapK b0 c0 3 4 (by decide) rfl
  have w5 : IntKind.wrap .i64 (q + 4 + 1) = q + 5 := wrapK b0 c0 4 5 (by decide) rfl
  have w6 : IntKind.wrap .i64 (q + 5 + 1) = q + 6 := wrapK b0 c0 5 6 (by decide) rfl
  have w7 : IntKind.wrap .i64 (q + 6 + 1) = q + 7 := wrapK b0 c0 6 7 (by decide) rfl
  have w8 : IntKind.wrap .i64 (q + 7 + 1) = q + 8 := wrapK b0 c0 7 8 (by decide) rfl
  have w9 : IntKind.wrap .i64 (q + 8 + 1) = q + 9 := wrapK b0 c0 8 9 (by decide) rfl
  have w10 : IntKind.wrap .i64 (q + 9 + 1) = q + 10 := wrapK b0 c0 9 10 (by decide) rfl
  have w11 : IntKind.wrap .i64 (q + 10 + 1) = q + 11 := wrapK b0 c0 10 11 (by decide) rfl
  simp only [hr, w1, w2, w3, w4, w5, w6, w7, w8, w9, w10, w11]
  refine E2.pos (by first | exact i0 | exact i1) ?_
  refine E2.pos (by first | exact i0 | exact i1) ?_
  refine E2.pos (by first | exact i0 | exact i1) ?_
  refine E2.neg (by simp) ?_
  refine E2.pos (by first | exact i0 | exact i1) ?_
  refine E2.pos (by first | exact i0 | exact i1) ?_
  refine E2.neg (by simp) ?_
  refine E2.pos (by first | exact i0 | exact i1) ?_
  refine E2.pos (by first | exact i0 | exact i1) ?_
  refine E2.neg (by simp) ?_
  refine E2.pos (by first | exact i0 | exact i1) ?_
  refine E2.pos (by first | exact i0 | exact i1) ?_
  refine E2.neg (by simp) ?_
  refine E2.pos (by first | exact i0 | exact i1) ?_
  refine E2.pos (by first | exact i0 | exact i1) ?_
  refine E2.neg (by simp) ?_
  refine E2.pos (by first | exact i0 | exact i1) ?_
  refine E2.pos (by first | exact i0 | exact i1) ?_
  refine E2.neg (by simp) ?_
  refine E2.pos (by first | exact i0 | exact i1) ?_
  refine E2.pos (by first | exact i0 | exact i1) ?_
  refine E2.neg (by simp) ?_
  refine E2.pos (by first | exact i0 | exact i1) ?_
  refine E2.pos (by first | exact i0 | exact i1) ?_
  refine E2.neg (by simp) ?_
  refine E2.pos (by first | exact i0 | exact i1) ?_
  refine E2.pos (by first | exact i0 | exact i1) ?_
  refine E2.neg (by simp) ?_
  refine E2.pos (by first | exact i0 | exact i1) ?_
  refine E2.pos (by first | exact i0 | exact i1) ?_
  refine E2.neg (by simp) ?_
  refine E2.pos (by first | exact i0 | exact i1) ?_
  refine E2.pos (by first | exact i0 | exact i1) ?_
  refine E2.neg (by simp) ?_
  refine E2.pos (by first | exact i0 | exact i1) ?_
  refine E2.pos (by first | exact i0 | exact i1) ?_
  refine E2.bind ((laws_heldIntS_ev (marks (fun q : Int => (q : Int)) 1 (rd T141 x (i : Int)).2.2.2.2.1.2.2.2.1.length (q + 11)) (by rw [marks_len]; exact l0) (q + 11) (by clear w1 w2 w3 w4 w5 w6 w7 w8 w9 w10 w11; omega) (by clear w1 w2 w3 w4 w5 w6 w7 w8 w9 w10 w11; omega) (by rw [marks_len])).val (by rw [marks_len])) ?_
  have b1 : 0 ≤ (q + 11 + 1 * (((rd T141 x (i : Int)).2.2.2.2.1.2.2.2.1.length : Nat) : Int)) := by clear w1 w2 w3 w4 w5 w6 w7 w8 w9 w10 w11; omega
  have c1 : (q + 11 + 1 * (((rd T141 x (i : Int)).2.2.2.2.1.2.2.2.1.length : Nat) : Int)) ≤ 8796093022208 := by clear w1 w2 w3 w4 w5 w6 w7 w8 w9 w10 w11; omega
  have w12 : IntKind.wrap .i64 ((q + 11 + 1 * (((rd T141 x (i : Int)).2.2.2.2.1.2.2.2.1.length : Nat) : Int)) + 1) = (q + 11 + 1 * (((rd T141 x (i : Int)).2.2.2.2.1.2.2.2.1.length : Nat) : Int)) + 1 := wrapK0 b1 c1
  have w13 : IntKind.wrap .i64 ((q + 11 + 1 * (((rd T141 x (i : Int)).2.2.2.2.1.2.2.2.1.length : Nat) : Int)) + 1 + 1) = (q + 11 + 1 * (((rd T141 x (i : Int)).2.2.2.2.1.2.2.2.1.length : Nat) : Int)) + 2 := wrapK b1 c1 1 2 (by decide) rfl
  have w14 : IntKind.wrap .i64 ((q + 11 + 1 * (((rd T141 x (i : Int)).2.2.2.2.1.2.2.2.1.length : Nat) : Int)) + 2 + 1) = (q + 11 + 1 * (((rd T141 x (i : Int)).2.2.2.2.1.2.2.2.1.length : Nat) : Int)) + 3 := wrapK b1 c1 2 3 (by decide) rfl
  have w15 : IntKind.wrap .i64 ((q + 11 + 1 * (((rd T141 x (i : Int)).2.2.2.2.1.2.2.2.1.length : Nat) : Int)) + 3 + 1) = (q + 11 + 1 * (((rd T141 x (i : Int)).2.2.2.2.1.2.2.2.1.length : Nat) : Int)) + 4 := wrapK b1 c1 3 4 (by decide) rfl
  have w16 : IntKind.wrap .i64 ((q + 11 + 1 * (((rd T141 x (i : Int)).2.2.2.2.1.2.2.2.1.length : Nat) : Int)) + 4 + 1) = (q + 11 + 1 * (((rd T141 x (i : Int)).2.2.2.2.1.2.2.2.1.length : Nat) : Int)) + 5 := wrapK b1 c1 4 5 (by decide) rfl
  simp only [w1, w2, w3, w4, w5, w6, w7, w8, w9, w10, w11, w12, w13, w14, w15, w16]
  refine E2.neg (by clear w1 w2 w3 w4 w5 w6 w7 w8 w9 w10 w11 w12 w13 w14 w15 w16; omega) ?_
  refine E2.pos (by first | exact i0 | exact i1) ?_
  refine E2.pos (by first | exact i0 | exact i1) ?_
  refine E2.neg (by simp) ?_
  refine E2.pos (by first | exact i0 | exact i1) ?_
  refine E2.pos (by first | exact i0 | exact i1) ?_
  refine E2.neg (by simp) ?_
  refine E2.pos (by first | exact i0 | exact i1) ?_
  refine E2.pos (by first | exact i0 | exact i1) ?_
  refine E2.neg (by simp) ?_
  refine E2.pos (by first | exact i0 | exact i1) ?_
  refine E2.pos (by first | exact i0 | exact i1) ?_
  refine E2.neg (by simp) ?_
  refine E2.pos (by first | exact i0 | exact i1) ?_
  refine E2.pos (by first | exact i0 | exact i1) ?_
  refine E2.neg (by simp) ?_
  simp only [wrapS (show i < 9223372036854775807 by omega)]
  refine (congrArg (fun z => E2 z v) (funext fun k => funext fun m => ?_)).mp ee
  show laws_heldHappeningS.l0 k m y (q + ((16 : Int) + 1 * (((rd T141 x (i : Int)).2.2.2.2.1.2.2.2.1.length : Nat) : Int))) _ = _
  congr 1
  clear w1 w2 w3 w4 w5 w6 w7 w8 w9 w10 w11 w12 w13 w14 w15 w16
  omega
end Go.QFnExactWriteAll
