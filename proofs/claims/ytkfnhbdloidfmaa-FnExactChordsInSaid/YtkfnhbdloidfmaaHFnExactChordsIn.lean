/- The law's helpers. No condition. -/
import Derived.Test.YtkfnhbdloidfmaaQFnExactChordsIn
import Derived.Test.YtkfnhbdloidfmaaPur
set_option linter.unusedVariables false
set_option linter.unusedSimpArgs false
open Go Go.Flat
namespace Go.QFnExactChordsIn
theorem laws_szEventS_ok (x : (List DT135)) (w : Wd (.list T135) x) (n : Int) (hn : 0 ≤ n) (hm : n ≤ 1048576) : ∃ r, Ev (fun k => laws_szEventS k x n) r ∧ (r < 0 ∨ 0 ≤ r ∧ r ≤ n ∧ Bk (.list T135) x) := by
  have hl : x.length ≤ 9223372036854775807 := w.1
  by_cases c : n - (x.length : Int) < 0
  · exact ⟨-1, Ev.eq (fun k => laws_szEventS_eq k x n) (Ev.pos (by rw [wrapI (by omega) (by omega)]; omega) Ev.ret), .inl (by omega)⟩
  · exact ⟨n - x.length, Ev.eq (fun k => laws_szEventS_eq k x n) (Ev.neg (by rw [wrapI (by omega) (by omega)]; omega) (Ev.ret.val (wrapI (by omega) (by omega)))), .inr ⟨by omega, by omega, bk_list (by omega) fun i hi => bk_flat _ rfl⟩⟩
theorem laws_toEvent_id (x : DT135) (h : Bk T135 x) : Ev (fun k => laws_toEvent k x) x := Ev.eq (fun k => laws_toEvent_eq k x) Ev.ret
theorem laws_toEventS_id (x : (List DT135)) (h : Bk (.list T135) x) : Ev (fun k => laws_toEventS k x) x := by
  have hL : x.length ≤ 1048576 := h.1
  refine Ev.eq (fun k => laws_toEventS_eq k x) (Ev.pos (by omega) (Ev.pos (by omega) (Ev.pos (by omega) (Ev.loop (f := fun k m => laws_toEventS.l0 k m x 0 (List.replicate (Int.toNat ((List.length x : Nat) : Int)) (Ty.dflt T135))) ?_))))
  have key := loop_map (t := T135) (u := T135) (F := fun i y k m => laws_toEventS.l0 k m x i y) (x := x) (fun a => a) (fun y => E2.eq (fun k m => laws_toEventS.l0_eq k m x _ y) (E2.neg (by omega) E2.ret)) (fun i y hi hy v e => by
    refine E2.eq (fun k m => laws_toEventS.l0_eq k m x _ y) (E2.pos (by omega) (E2.pos (by omega) (E2.pos (by omega) (E2.bind (laws_toEvent_id _ (bk_rd h hi)) (E2.pos (by omega) (E2.pos (by omega) ?_))))))
    rw [wrapS (by omega), Int.toNat_natCast]; exact e) (List.replicate (Int.toNat ((List.length x : Nat) : Int)) (Ty.dflt T135)) (by simp)
  exact key.val (by simp)
theorem laws_eqChord_self (x : DT71) (h : Bk T71 x) : Ev (fun k => laws_eqChord k x x) true := Ev.eq (fun k => laws_eqChord_eq k x x) (Ev.neg (by simp) (Ev.neg (by simp) Ev.ret))
theorem laws_eqChordS_self (x : (List DT71)) (h : Bk (.list T71) x) : Ev (fun k => laws_eqChordS k x x) true := by
  have hL : x.length ≤ 1048576 := h.1
  refine Ev.eq (fun k => laws_eqChordS_eq k x x) (Ev.neg (by simp) (Ev.loop (f := fun k m => laws_eqChordS.l0 k m x x 0) ?_))
  obtain ⟨r, er, hr⟩ := loop_all (F := fun i k m => laws_eqChordS.l0 k m x x i) (n := x.length) (fun _ => True) (E2.eq (fun k m => laws_eqChordS.l0_eq k m x x _) (E2.neg (by omega) E2.ret)) (fun i hi _ v e => by
    refine E2.eq (fun k m => laws_eqChordS.l0_eq k m x x _) (E2.pos (by omega) (E2.pos (by omega) (E2.pos (by omega) (E2.pos (by omega) (E2.pos (by omega) (E2.bind (laws_eqChord_self _ (bk_rd h hi)) (E2.neg (by simp) ?_)))))))
    rw [wrapS (by omega)]; exact e) (fun i hi hq => (hq trivial).elim)
  exact er.val (hr.2 fun _ _ => trivial)
theorem laws_eqEvent_self (x : DT135) (h : Bk T135 x) : Ev (fun k => laws_eqEvent k x x) true := Ev.eq (fun k => laws_eqEvent_eq k x x) (Ev.neg (by simp) (Ev.neg (by simp) (Ev.neg (by simp) (Ev.neg (by simp) Ev.ret))))
theorem laws_eqEventS_self (x : (List DT135)) (h : Bk (.list T135) x) : Ev (fun k => laws_eqEventS k x x) true := by
  have hL : x.length ≤ 1048576 := h.1
  refine Ev.eq (fun k => laws_eqEventS_eq k x x) (Ev.neg (by simp) (Ev.loop (f := fun k m => laws_eqEventS.l0 k m x x 0) ?_))
  obtain ⟨r, er, hr⟩ := loop_all (F := fun i k m => laws_eqEventS.l0 k m x x i) (n := x.length) (fun _ => True) (E2.eq (fun k m => laws_eqEventS.l0_eq k m x x _) (E2.neg (by omega) E2.ret)) (fun i hi _ v e => by
    refine E2.eq (fun k m => laws_eqEventS.l0_eq k m x x _) (E2.pos (by omega) (E2.pos (by omega) (E2.pos (by omega) (E2.pos (by omega) (E2.pos (by omega) (E2.bind (laws_eqEvent_self _ (bk_rd h hi)) (E2.neg (by simp) ?_)))))))
    rw [wrapS (by omega)]; exact e) (fun i hi hq => (hq trivial).elim)
  exact er.val (hr.2 fun _ _ => trivial)
theorem laws_markEventS_ev (x : (List DT135)) (h : x.length ≤ 1048576) (q0 : Int) (h0 : 0 ≤ q0) (h1 : q0 ≤ 1099511627776) : Ev (fun k => laws_markEventS k x q0) (q0 + 4 * x.length, marks (fun q : Int => ((q, (q + 1, (q + 2, (q + 3, ())))) : DT135)) 4 x.length q0) := by
  refine Ev.eq (fun k => laws_markEventS_eq k x q0) (Ev.loop (f := fun k m => laws_markEventS.l0 k m q0 0 x) (loop_mark (t := T135) (F := fun q i s k m => laws_markEventS.l0 k m q i s) (fun q : Int => ((q, (q + 1, (q + 2, (q + 3, ())))) : DT135)) 4 2199023255552 (by omega) (fun q s hs => E2.eq (fun k m => laws_markEventS.l0_eq k m _ _ _) (E2.neg (by omega) E2.ret)) (fun i q s hi hs hq hB v e => ?_) q0 h0 (by omega)))
  · refine E2.eq (fun k m => laws_markEventS.l0_eq k m _ _ _) ?_
    have w1 : IntKind.wrap .i64 (q + 1) = q + 1 := (wrapI (by omega) (by omega)).trans (by omega)
    have w2 : IntKind.wrap .i64 (q + 1 + 1) = q + 2 := (wrapI (by omega) (by omega)).trans (by omega)
    have w3 : IntKind.wrap .i64 (q + 2 + 1) = q + 3 := (wrapI (by omega) (by omega)).trans (by omega)
    have w4 : IntKind.wrap .i64 (q + 3 + 1) = q + 4 := (wrapI (by omega) (by omega)).trans (by omega)
    refine E2.pos (by first | omega | ((repeat rw [setAt_len]); omega)) ?_
    refine E2.pos (by first | omega | ((repeat rw [setAt_len]); omega)) ?_
    refine E2.pos (by first | omega | ((repeat rw [setAt_len]); omega)) ?_
    refine E2.pos (by first | omega | ((repeat rw [setAt_len]); omega)) ?_
    refine E2.pos (by first | omega | ((repeat rw [setAt_len]); omega)) ?_
    refine E2.pos (by first | omega | ((repeat rw [setAt_len]); omega)) ?_
    refine E2.pos (by first | omega | ((repeat rw [setAt_len]); omega)) ?_
    refine E2.pos (by first | omega | ((repeat rw [setAt_len]); omega)) ?_
    refine E2.pos (by first | omega | ((repeat rw [setAt_len]); omega)) ?_
    simp only [w1, w2, w3, w4, wrapS (show i < 9223372036854775807 by omega), setAt_comp (show i < s.length by omega)]
    simp only [setAt_eq]
    exact e
theorem laws_markChordS_ev (x : (List DT71)) (h : x.length ≤ 1048576) (q0 : Int) (h0 : 0 ≤ q0) (h1 : q0 ≤ 1099511627776) : Ev (fun k => laws_markChordS k x q0) (q0 + 2 * x.length, marks (fun q : Int => ((q, (q + 1, ())) : DT71)) 2 x.length q0) := by
  refine Ev.eq (fun k => laws_markChordS_eq k x q0) (Ev.loop (f := fun k m => laws_markChordS.l0 k m q0 0 x) (loop_mark (t := T71) (F := fun q i s k m => laws_markChordS.l0 k m q i s) (fun q : Int => ((q, (q + 1, ())) : DT71)) 2 2199023255552 (by omega) (fun q s hs => E2.eq (fun k m => laws_markChordS.l0_eq k m _ _ _) (E2.neg (by omega) E2.ret)) (fun i q s hi hs hq hB v e => ?_) q0 h0 (by omega)))
  · refine E2.eq (fun k m => laws_markChordS.l0_eq k m _ _ _) ?_
    have w1 : IntKind.wrap .i64 (q + 1) = q + 1 := (wrapI (by omega) (by omega)).trans (by omega)
    have w2 : IntKind.wrap .i64 (q + 1 + 1) = q + 2 := (wrapI (by omega) (by omega)).trans (by omega)
    refine E2.pos (by first | omega | ((repeat rw [setAt_len]); omega)) ?_
    refine E2.pos (by first | omega | ((repeat rw [setAt_len]); omega)) ?_
    refine E2.pos (by first | omega | ((repeat rw [setAt_len]); omega)) ?_
    refine E2.pos (by first | omega | ((repeat rw [setAt_len]); omega)) ?_
    refine E2.pos (by first | omega | ((repeat rw [setAt_len]); omega)) ?_
    simp only [w1, w2, wrapS (show i < 9223372036854775807 by omega), setAt_comp (show i < s.length by omega)]
    simp only [setAt_eq]
    exact e
theorem laws_heldChordS_ev (x : (List DT71)) (h : x.length ≤ 1048576) (q0 : Int) (h0 : 0 ≤ q0) (h1 : q0 ≤ 1099511627776) (hx : x = marks (fun q : Int => ((q, (q + 1, ())) : DT71)) 2 x.length q0) : Ev (fun k => laws_heldChordS k x q0) (q0 + 2 * x.length) := by
  refine Ev.eq (fun k => laws_heldChordS_eq k x q0) (Ev.loop (f := fun k m => laws_heldChordS.l0 k m x q0 0) (loop_held (t := T71) (F := fun q i k m => laws_heldChordS.l0 k m x q i) (fun q : Int => ((q, (q + 1, ())) : DT71)) 2 2199023255552 (by omega) (fun q => E2.eq (fun k m => laws_heldChordS.l0_eq k m _ _ _) (E2.neg (by omega) E2.ret)) (fun i q hi hq hB hr v e => ?_) q0 h0 (by omega) hx))
  refine E2.eq (fun k m => laws_heldChordS.l0_eq k m _ _ _) ?_
  have w1 : IntKind.wrap .i64 (q + 1) = q + 1 := (wrapI (by omega) (by omega)).trans (by omega)
  have w2 : IntKind.wrap .i64 (q + 1 + 1) = q + 2 := (wrapI (by omega) (by omega)).trans (by omega)
  simp only [w1, w2, wrapS (show i < 9223372036854775807 by omega), hr]
  refine E2.pos (by omega) ?_
  refine E2.pos (by omega) ?_
  refine E2.pos (by omega) ?_
  refine E2.neg (by simp) ?_
  refine E2.pos (by omega) ?_
  refine E2.pos (by omega) ?_
  refine E2.neg (by simp) ?_
  exact e
end Go.QFnExactChordsIn
