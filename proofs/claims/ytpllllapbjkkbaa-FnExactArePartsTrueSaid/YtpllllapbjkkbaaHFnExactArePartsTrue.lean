/- The law's helpers. No condition. -/
import Derived.Test.YtpllllapbjkkbaaQFnExactArePartsTrue
import Derived.Test.YtpllllapbjkkbaaPur
set_option linter.unusedVariables false
set_option linter.unusedSimpArgs false
open Go Go.Flat
namespace Go.QFnExactArePartsTrue
theorem laws_szEventS_ok (x : (List DT100)) (w : Wd (.list T100) x) (n : Int) (hn : 0 ≤ n) (hm : n ≤ 1048576) : ∃ r, Ev (fun k => laws_szEventS k x n) r ∧ (r < 0 ∨ 0 ≤ r ∧ r ≤ n ∧ Bk (.list T100) x) := by
  have hl : x.length ≤ 9223372036854775807 := w.1
  by_cases c : n - (x.length : Int) < 0
  · exact ⟨-1, Ev.eq (fun k => laws_szEventS_eq k x n) (Ev.pos (by rw [wrapI (by omega) (by omega)]; omega) Ev.ret), .inl (by omega)⟩
  · exact ⟨n - x.length, Ev.eq (fun k => laws_szEventS_eq k x n) (Ev.neg (by rw [wrapI (by omega) (by omega)]; omega) (Ev.ret.val (wrapI (by omega) (by omega)))), .inr ⟨by omega, by omega, show Bk (.list T100) x from bk_list (by omega) fun i hi => bk_flat _ rfl⟩⟩
theorem laws_szTempoS_ok (x : (List DT23)) (w : Wd (.list T23) x) (n : Int) (hn : 0 ≤ n) (hm : n ≤ 1048576) : ∃ r, Ev (fun k => laws_szTempoS k x n) r ∧ (r < 0 ∨ 0 ≤ r ∧ r ≤ n ∧ Bk (.list T23) x) := by
  have hl : x.length ≤ 9223372036854775807 := w.1
  by_cases c : n - (x.length : Int) < 0
  · exact ⟨-1, Ev.eq (fun k => laws_szTempoS_eq k x n) (Ev.pos (by rw [wrapI (by omega) (by omega)]; omega) Ev.ret), .inl (by omega)⟩
  · exact ⟨n - x.length, Ev.eq (fun k => laws_szTempoS_eq k x n) (Ev.neg (by rw [wrapI (by omega) (by omega)]; omega) (Ev.ret.val (wrapI (by omega) (by omega)))), .inr ⟨by omega, by omega, show Bk (.list T23) x from bk_list (by omega) fun i hi => bk_flat _ rfl⟩⟩
theorem laws_szIntS_ok (x : (List Int)) (w : Wd (.list (.int .i64)) x) (n : Int) (hn : 0 ≤ n) (hm : n ≤ 1048576) : ∃ r, Ev (fun k => laws_szIntS k x n) r ∧ (r < 0 ∨ 0 ≤ r ∧ r ≤ n ∧ Bk (.list (.int .i64)) x) := by
  have hl : x.length ≤ 9223372036854775807 := w.1
  by_cases c : n - (x.length : Int) < 0
  · exact ⟨-1, Ev.eq (fun k => laws_szIntS_eq k x n) (Ev.pos (by rw [wrapI (by omega) (by omega)]; omega) Ev.ret), .inl (by omega)⟩
  · exact ⟨n - x.length, Ev.eq (fun k => laws_szIntS_eq k x n) (Ev.neg (by rw [wrapI (by omega) (by omega)]; omega) (Ev.ret.val (wrapI (by omega) (by omega)))), .inr ⟨by omega, by omega, show Bk (.list (.int .i64)) x from bk_list (by omega) fun i hi => bk_flat _ rfl⟩⟩
theorem laws_szPlayer_ok (x : DT90) (w : Wd T90 x) (n : Int) (hn : 0 ≤ n) (hm : n ≤ 1048576) : ∃ r, Ev (fun k => laws_szPlayer k x n) r ∧ (r < 0 ∨ 0 ≤ r ∧ r ≤ n ∧ Bk T90 x) := by
  obtain ⟨r0, e0, h0⟩ := laws_szIntS_ok x.2.2.2.1 w.2.2.2.1 n (by omega) (by omega)
  by_cases c0 : r0 < 0
  · exact ⟨-1, Ev.eq (fun k => laws_szPlayer_eq k x n) (Ev.bind e0 (Ev.pos c0 Ev.ret)), .inl (by omega)⟩
  replace h0 := h0.resolve_left c0
  exact ⟨r0, Ev.eq (fun k => laws_szPlayer_eq k x n) (Ev.bind e0 (Ev.neg c0 (Ev.ret))), .inr ⟨by omega, by omega, bk_flat _ rfl, bk_flat _ rfl, bk_flat _ rfl, h0.2.2, trivial⟩⟩
theorem laws_szPlayerS_ok (x : (List DT90)) (w : Wd (.dlist T90) x) (n : Int) (hn : 0 ≤ n) (hm : n ≤ 1048576) : ∃ r, Ev (fun k => laws_szPlayerS k x n) r ∧ (r < 0 ∨ 0 ≤ r ∧ r ≤ n ∧ Bk (.dlist T90) x) := by
  have hl : x.length ≤ 9223372036854775807 := w.1
  by_cases c : n - (x.length : Int) < 0
  · exact ⟨-1, Ev.eq (fun k => laws_szPlayerS_eq k x n) (Ev.pos (by rw [wrapI (by omega) (by omega)]; omega) Ev.ret), .inl (by omega)⟩
  · obtain ⟨r, e, h⟩ := loop_sz (t := T90) (x := x) (F := fun i n k m => laws_szPlayerS.l0 k m x n i) (fun n => E2.eq (fun k m => laws_szPlayerS.l0_eq k m x n _) (E2.neg (by omega) E2.ret)) (fun i hi n hn hm => by
      obtain ⟨r0, e0, h0⟩ := laws_szPlayer_ok (rd T90 x (i : Int)) (wd_rd w hi) n hn hm
      by_cases c : r0 < 0
      · exact .inl ⟨-1, by omega, E2.eq (fun k m => laws_szPlayerS.l0_eq k m x n _) (E2.pos (by omega) (E2.pos (by omega) (E2.pos (by omega) (E2.bind e0 (E2.pos c E2.ret)))))⟩
      · have h0 := h0.resolve_left c
        refine .inr ⟨r0, h0.1, h0.2.1, h0.2.2, fun v e => E2.eq (fun k m => laws_szPlayerS.l0_eq k m x n _) (E2.pos (by omega) (E2.pos (by omega) (E2.pos (by omega) (E2.bind e0 (E2.neg c ?_)))))⟩
        rw [wrapS (by omega)]; exact e) (n - x.length) (by omega) (by omega)
    refine ⟨r, Ev.eq (fun k => laws_szPlayerS_eq k x n) (Ev.neg (by rw [wrapI (by omega) (by omega)]; omega) (Ev.loop (f := fun k m => laws_szPlayerS.l0 k m x (IntKind.wrap .i64 (n - ((List.length x : Nat) : Int))) 0) ?_)), h.imp id fun h => ⟨h.1, by omega, show Bk (.list T90) x from bk_list (by omega) h.2.2⟩⟩
    rw [wrapI (by omega) (by omega)]
    exact e
theorem laws_szMarkS_ok (x : (List DT110)) (w : Wd (.list T110) x) (n : Int) (hn : 0 ≤ n) (hm : n ≤ 1048576) : ∃ r, Ev (fun k => laws_szMarkS k x n) r ∧ (r < 0 ∨ 0 ≤ r ∧ r ≤ n ∧ Bk (.list T110) x) := by
  have hl : x.length ≤ 9223372036854775807 := w.1
  by_cases c : n - (x.length : Int) < 0
  · exact ⟨-1, Ev.eq (fun k => laws_szMarkS_eq k x n) (Ev.pos (by rw [wrapI (by omega) (by omega)]; omega) Ev.ret), .inl (by omega)⟩
  · exact ⟨n - x.length, Ev.eq (fun k => laws_szMarkS_eq k x n) (Ev.neg (by rw [wrapI (by omega) (by omega)]; omega) (Ev.ret.val (wrapI (by omega) (by omega)))), .inr ⟨by omega, by omega, show Bk (.list T110) x from bk_list (by omega) fun i hi => bk_flat _ rfl⟩⟩
theorem laws_szLetterS_ok (x : (List DT23)) (w : Wd (.list T23) x) (n : Int) (hn : 0 ≤ n) (hm : n ≤ 1048576) : ∃ r, Ev (fun k => laws_szLetterS k x n) r ∧ (r < 0 ∨ 0 ≤ r ∧ r ≤ n ∧ Bk (.list T23) x) := by
  have hl : x.length ≤ 9223372036854775807 := w.1
  by_cases c : n - (x.length : Int) < 0
  · exact ⟨-1, Ev.eq (fun k => laws_szLetterS_eq k x n) (Ev.pos (by rw [wrapI (by omega) (by omega)]; omega) Ev.ret), .inl (by omega)⟩
  · exact ⟨n - x.length, Ev.eq (fun k => laws_szLetterS_eq k x n) (Ev.neg (by rw [wrapI (by omega) (by omega)]; omega) (Ev.ret.val (wrapI (by omega) (by omega)))), .inr ⟨by omega, by omega, show Bk (.list T23) x from bk_list (by omega) fun i hi => bk_flat _ rfl⟩⟩
theorem laws_szOrchestra_ok (x : DT30) (w : Wd T30 x) (n : Int) (hn : 0 ≤ n) (hm : n ≤ 1048576) : ∃ r, Ev (fun k => laws_szOrchestra k x n) r ∧ (r < 0 ∨ 0 ≤ r ∧ r ≤ n ∧ Bk T30 x) := by
  obtain ⟨r0, e0, h0⟩ := laws_szEventS_ok x.1 w.1 n (by omega) (by omega)
  by_cases c0 : r0 < 0
  · exact ⟨-1, Ev.eq (fun k => laws_szOrchestra_eq k x n) (Ev.bind e0 (Ev.pos c0 Ev.ret)), .inl (by omega)⟩
  replace h0 := h0.resolve_left c0
  obtain ⟨r1, e1, h1⟩ := laws_szTempoS_ok x.2.2.1 w.2.2.1 r0 (by omega) (by omega)
  by_cases c1 : r1 < 0
  · exact ⟨-1, Ev.eq (fun k => laws_szOrchestra_eq k x n) (Ev.bind e0 (Ev.neg c0 (Ev.bind e1 (Ev.pos c1 Ev.ret)))), .inl (by omega)⟩
  replace h1 := h1.resolve_left c1
  obtain ⟨r2, e2, h2⟩ := laws_szPlayerS_ok x.2.2.2.1 w.2.2.2.1 r1 (by omega) (by omega)
  by_cases c2 : r2 < 0
  · exact ⟨-1, Ev.eq (fun k => laws_szOrchestra_eq k x n) (Ev.bind e0 (Ev.neg c0 (Ev.bind e1 (Ev.neg c1 (Ev.bind e2 (Ev.pos c2 Ev.ret)))))), .inl (by omega)⟩
  replace h2 := h2.resolve_left c2
  obtain ⟨r3, e3, h3⟩ := laws_szIntS_ok x.2.2.2.2.1 w.2.2.2.2.1 r2 (by omega) (by omega)
  by_cases c3 : r3 < 0
  · exact ⟨-1, Ev.eq (fun k => laws_szOrchestra_eq k x n) (Ev.bind e0 (Ev.neg c0 (Ev.bind e1 (Ev.neg c1 (Ev.bind e2 (Ev.neg c2 (Ev.bind e3 (Ev.pos c3 Ev.ret)))))))), .inl (by omega)⟩
  replace h3 := h3.resolve_left c3
  obtain ⟨r4, e4, h4⟩ := laws_szMarkS_ok x.2.2.2.2.2.1 w.2.2.2.2.2.1 r3 (by omega) (by omega)
  by_cases c4 : r4 < 0
  · exact ⟨-1, Ev.eq (fun k => laws_szOrchestra_eq k x n) (Ev.bind e0 (Ev.neg c0 (Ev.bind e1 (Ev.neg c1 (Ev.bind e2 (Ev.neg c2 (Ev.bind e3 (Ev.neg c3 (Ev.bind e4 (Ev.pos c4 Ev.ret)))))))))), .inl (by omega)⟩
  replace h4 := h4.resolve_left c4
  obtain ⟨r5, e5, h5⟩ := laws_szLetterS_ok x.2.2.2.2.2.2.1 w.2.2.2.2.2.2.1 r4 (by omega) (by omega)
  by_cases c5 : r5 < 0
  · exact ⟨-1, Ev.eq (fun k => laws_szOrchestra_eq k x n) (Ev.bind e0 (Ev.neg c0 (Ev.bind e1 (Ev.neg c1 (Ev.bind e2 (Ev.neg c2 (Ev.bind e3 (Ev.neg c3 (Ev.bind e4 (Ev.neg c4 (Ev.bind e5 (Ev.pos c5 Ev.ret)))))))))))), .inl (by omega)⟩
  replace h5 := h5.resolve_left c5
  exact ⟨r5, Ev.eq (fun k => laws_szOrchestra_eq k x n) (Ev.bind e0 (Ev.neg c0 (Ev.bind e1 (Ev.neg c1 (Ev.bind e2 (Ev.neg c2 (Ev.bind e3 (Ev.neg c3 (Ev.bind e4 (Ev.neg c4 (Ev.bind e5 (Ev.neg c5 (Ev.ret))))))))))))), .inr ⟨by omega, by omega, h0.2.2, bk_flat _ rfl, h1.2.2, h2.2.2, h3.2.2, h4.2.2, h5.2.2, bk_flat _ rfl, bk_flat _ rfl, trivial⟩⟩
theorem laws_toEvent_id (x : DT100) (h : Bk T100 x) : Ev (fun k => laws_toEvent k x) x := Ev.eq (fun k => laws_toEvent_eq k x) Ev.ret
theorem laws_toEventS_id (x : (List DT100)) (h : Bk (.list T100) x) : Ev (fun k => laws_toEventS k x) x := by
  have hL : x.length ≤ 1048576 := h.1
  refine Ev.eq (fun k => laws_toEventS_eq k x) (Ev.pos (by omega) (Ev.pos (by omega) (Ev.pos (by omega) (Ev.loop (f := fun k m => laws_toEventS.l0 k m x 0 (List.replicate (Int.toNat ((List.length x : Nat) : Int)) (Ty.dflt T100))) ?_))))
  have key := loop_map (t := T100) (u := T100) (F := fun i y k m => laws_toEventS.l0 k m x i y) (x := x) (fun a => a) (fun y => E2.eq (fun k m => laws_toEventS.l0_eq k m x _ y) (E2.neg (by omega) E2.ret)) (fun i y hi hy v e => by
    refine E2.eq (fun k m => laws_toEventS.l0_eq k m x _ y) (E2.pos (by omega) (E2.pos (by omega) (E2.pos (by omega) (E2.bind (laws_toEvent_id _ (bk_rd h hi)) (E2.pos (by omega) (E2.pos (by omega) ?_))))))
    rw [wrapS (by omega), Int.toNat_natCast]; exact e) (List.replicate (Int.toNat ((List.length x : Nat) : Int)) (Ty.dflt T100)) (by simp)
  exact key.val (by simp)
theorem laws_toMeter_id (x : DT23) (h : Bk T23 x) : Ev (fun k => laws_toMeter k x) x := Ev.eq (fun k => laws_toMeter_eq k x) Ev.ret
theorem laws_toTempo_id (x : DT23) (h : Bk T23 x) : Ev (fun k => laws_toTempo k x) x := Ev.eq (fun k => laws_toTempo_eq k x) Ev.ret
theorem laws_toTempoS_id (x : (List DT23)) (h : Bk (.list T23) x) : Ev (fun k => laws_toTempoS k x) x := by
  have hL : x.length ≤ 1048576 := h.1
  refine Ev.eq (fun k => laws_toTempoS_eq k x) (Ev.pos (by omega) (Ev.pos (by omega) (Ev.pos (by omega) (Ev.loop (f := fun k m => laws_toTempoS.l0 k m x 0 (List.replicate (Int.toNat ((List.length x : Nat) : Int)) (Ty.dflt T23))) ?_))))
  have key := loop_map (t := T23) (u := T23) (F := fun i y k m => laws_toTempoS.l0 k m x i y) (x := x) (fun a => a) (fun y => E2.eq (fun k m => laws_toTempoS.l0_eq k m x _ y) (E2.neg (by omega) E2.ret)) (fun i y hi hy v e => by
    refine E2.eq (fun k m => laws_toTempoS.l0_eq k m x _ y) (E2.pos (by omega) (E2.pos (by omega) (E2.pos (by omega) (E2.bind (laws_toTempo_id _ (bk_rd h hi)) (E2.pos (by omega) (E2.pos (by omega) ?_))))))
    rw [wrapS (by omega), Int.toNat_natCast]; exact e) (List.replicate (Int.toNat ((List.length x : Nat) : Int)) (Ty.dflt T23)) (by simp)
  exact key.val (by simp)
theorem laws_toIntS_id (x : (List Int)) (h : Bk (.list (.int .i64)) x) : Ev (fun k => laws_toIntS k x) x := by
  have hL : x.length ≤ 1048576 := h.1
  refine Ev.eq (fun k => laws_toIntS_eq k x) (Ev.pos (by omega) (Ev.pos (by omega) (Ev.pos (by omega) (Ev.loop (f := fun k m => laws_toIntS.l0 k m x 0 (List.replicate (Int.toNat ((List.length x : Nat) : Int)) (Ty.dflt (.int .i64)))) ?_))))
  have key := loop_map (t := (.int .i64)) (u := (.int .i64)) (F := fun i y k m => laws_toIntS.l0 k m x i y) (x := x) (fun a => a) (fun y => E2.eq (fun k m => laws_toIntS.l0_eq k m x _ y) (E2.neg (by omega) E2.ret)) (fun i y hi hy v e => by
    refine E2.eq (fun k m => laws_toIntS.l0_eq k m x _ y) (E2.pos (by omega) (E2.pos (by omega) (E2.pos (by omega) (E2.pos (by omega) (E2.pos (by omega) ?_)))))
    rw [wrapS (by omega), Int.toNat_natCast]; exact e) (List.replicate (Int.toNat ((List.length x : Nat) : Int)) (Ty.dflt (.int .i64))) (by simp)
  exact key.val (by simp)
theorem laws_toPlayer_id (x : DT90) (h : Bk T90 x) : Ev (fun k => laws_toPlayer k x) x := Ev.eq (fun k => laws_toPlayer_eq k x) (Ev.bind (laws_toIntS_id _ h.2.2.2.1) Ev.ret)
theorem laws_toPlayerS_id (x : (List DT90)) (h : Bk (.dlist T90) x) : Ev (fun k => laws_toPlayerS k x) x := by
  have hL : x.length ≤ 1048576 := h.1
  refine Ev.eq (fun k => laws_toPlayerS_eq k x) (Ev.pos (by omega) (Ev.pos (by omega) (Ev.pos (by omega) (Ev.loop (f := fun k m => laws_toPlayerS.l0 k m x 0 (List.replicate (Int.toNat ((List.length x : Nat) : Int)) (Ty.dflt T90))) ?_))))
  have key := loop_map (t := T90) (u := T90) (F := fun i y k m => laws_toPlayerS.l0 k m x i y) (x := x) (fun a => a) (fun y => E2.eq (fun k m => laws_toPlayerS.l0_eq k m x _ y) (E2.neg (by omega) E2.ret)) (fun i y hi hy v e => by
    refine E2.eq (fun k m => laws_toPlayerS.l0_eq k m x _ y) (E2.pos (by omega) (E2.pos (by omega) (E2.pos (by omega) (E2.bind (laws_toPlayer_id _ (bk_rd h hi)) (E2.pos (by omega) (E2.pos (by omega) ?_))))))
    rw [wrapS (by omega), Int.toNat_natCast]; exact e) (List.replicate (Int.toNat ((List.length x : Nat) : Int)) (Ty.dflt T90)) (by simp)
  exact key.val (by simp)
theorem laws_toMark_id (x : DT110) (h : Bk T110 x) : Ev (fun k => laws_toMark k x) x := Ev.eq (fun k => laws_toMark_eq k x) Ev.ret
theorem laws_toMarkS_id (x : (List DT110)) (h : Bk (.list T110) x) : Ev (fun k => laws_toMarkS k x) x := by
  have hL : x.length ≤ 1048576 := h.1
  refine Ev.eq (fun k => laws_toMarkS_eq k x) (Ev.pos (by omega) (Ev.pos (by omega) (Ev.pos (by omega) (Ev.loop (f := fun k m => laws_toMarkS.l0 k m x 0 (List.replicate (Int.toNat ((List.length x : Nat) : Int)) (Ty.dflt T110))) ?_))))
  have key := loop_map (t := T110) (u := T110) (F := fun i y k m => laws_toMarkS.l0 k m x i y) (x := x) (fun a => a) (fun y => E2.eq (fun k m => laws_toMarkS.l0_eq k m x _ y) (E2.neg (by omega) E2.ret)) (fun i y hi hy v e => by
    refine E2.eq (fun k m => laws_toMarkS.l0_eq k m x _ y) (E2.pos (by omega) (E2.pos (by omega) (E2.pos (by omega) (E2.bind (laws_toMark_id _ (bk_rd h hi)) (E2.pos (by omega) (E2.pos (by omega) ?_))))))
    rw [wrapS (by omega), Int.toNat_natCast]; exact e) (List.replicate (Int.toNat ((List.length x : Nat) : Int)) (Ty.dflt T110)) (by simp)
  exact key.val (by simp)
theorem laws_toLetter_id (x : DT23) (h : Bk T23 x) : Ev (fun k => laws_toLetter k x) x := Ev.eq (fun k => laws_toLetter_eq k x) Ev.ret
theorem laws_toLetterS_id (x : (List DT23)) (h : Bk (.list T23) x) : Ev (fun k => laws_toLetterS k x) x := by
  have hL : x.length ≤ 1048576 := h.1
  refine Ev.eq (fun k => laws_toLetterS_eq k x) (Ev.pos (by omega) (Ev.pos (by omega) (Ev.pos (by omega) (Ev.loop (f := fun k m => laws_toLetterS.l0 k m x 0 (List.replicate (Int.toNat ((List.length x : Nat) : Int)) (Ty.dflt T23))) ?_))))
  have key := loop_map (t := T23) (u := T23) (F := fun i y k m => laws_toLetterS.l0 k m x i y) (x := x) (fun a => a) (fun y => E2.eq (fun k m => laws_toLetterS.l0_eq k m x _ y) (E2.neg (by omega) E2.ret)) (fun i y hi hy v e => by
    refine E2.eq (fun k m => laws_toLetterS.l0_eq k m x _ y) (E2.pos (by omega) (E2.pos (by omega) (E2.pos (by omega) (E2.bind (laws_toLetter_id _ (bk_rd h hi)) (E2.pos (by omega) (E2.pos (by omega) ?_))))))
    rw [wrapS (by omega), Int.toNat_natCast]; exact e) (List.replicate (Int.toNat ((List.length x : Nat) : Int)) (Ty.dflt T23)) (by simp)
  exact key.val (by simp)
theorem laws_toOrchestra_id (x : DT30) (h : Bk T30 x) : Ev (fun k => laws_toOrchestra k x) x := Ev.eq (fun k => laws_toOrchestra_eq k x) (Ev.bind (laws_toEventS_id _ h.1) (Ev.bind (laws_toMeter_id _ h.2.1) (Ev.bind (laws_toTempoS_id _ h.2.2.1) (Ev.bind (laws_toPlayerS_id _ h.2.2.2.1) (Ev.bind (laws_toIntS_id _ h.2.2.2.2.1) (Ev.bind (laws_toMarkS_id _ h.2.2.2.2.2.1) (Ev.bind (laws_toLetterS_id _ h.2.2.2.2.2.2.1) Ev.ret)))))))
theorem laws_eqEvent_self (x : DT100) (h : Bk T100 x) : Ev (fun k => laws_eqEvent k x x) true := Ev.eq (fun k => laws_eqEvent_eq k x x) (Ev.neg (by simp) (Ev.neg (by simp) (Ev.neg (by simp) (Ev.neg (by simp) Ev.ret))))
theorem laws_eqEventS_self (x : (List DT100)) (h : Bk (.list T100) x) : Ev (fun k => laws_eqEventS k x x) true := by
  have hL : x.length ≤ 1048576 := h.1
  refine Ev.eq (fun k => laws_eqEventS_eq k x x) (Ev.neg (by simp) (Ev.loop (f := fun k m => laws_eqEventS.l0 k m x x 0) ?_))
  obtain ⟨r, er, hr⟩ := loop_all (F := fun i k m => laws_eqEventS.l0 k m x x i) (n := x.length) (fun _ => True) (E2.eq (fun k m => laws_eqEventS.l0_eq k m x x _) (E2.neg (by omega) E2.ret)) (fun i hi _ v e => by
    refine E2.eq (fun k m => laws_eqEventS.l0_eq k m x x _) (E2.pos (by omega) (E2.pos (by omega) (E2.pos (by omega) (E2.pos (by omega) (E2.pos (by omega) (E2.bind (laws_eqEvent_self _ (bk_rd h hi)) (E2.neg (by simp) ?_)))))))
    rw [wrapS (by omega)]; exact e) (fun i hi hq => (hq trivial).elim)
  exact er.val (hr.2 fun _ _ => trivial)
theorem laws_eqEventS_selfL (x : (List DT100)) (hL : x.length ≤ 4194304) : Ev (fun k => laws_eqEventS k x x) true := by
  refine Ev.eq (fun k => laws_eqEventS_eq k x x) (Ev.neg (by simp) (Ev.loop (f := fun k m => laws_eqEventS.l0 k m x x 0) ?_))
  obtain ⟨r, er, hr⟩ := loop_all (F := fun i k m => laws_eqEventS.l0 k m x x i) (n := x.length) (fun _ => True) (E2.eq (fun k m => laws_eqEventS.l0_eq k m x x _) (E2.neg (by omega) E2.ret)) (fun i hi _ v e => by
    refine E2.eq (fun k m => laws_eqEventS.l0_eq k m x x _) (E2.pos (by omega) (E2.pos (by omega) (E2.pos (by omega) (E2.pos (by omega) (E2.pos (by omega) (E2.bind (laws_eqEvent_self _ (bk_flat _ rfl)) (E2.neg (by simp) ?_)))))))
    rw [wrapS (by omega)]; exact e) (fun i hi hq => (hq trivial).elim)
  exact er.val (hr.2 fun _ _ => trivial)
theorem laws_eqMeter_self (x : DT23) (h : Bk T23 x) : Ev (fun k => laws_eqMeter k x x) true := Ev.eq (fun k => laws_eqMeter_eq k x x) (Ev.neg (by simp) (Ev.neg (by simp) Ev.ret))
theorem laws_eqTempo_self (x : DT23) (h : Bk T23 x) : Ev (fun k => laws_eqTempo k x x) true := Ev.eq (fun k => laws_eqTempo_eq k x x) (Ev.neg (by simp) (Ev.neg (by simp) Ev.ret))
theorem laws_eqTempoS_self (x : (List DT23)) (h : Bk (.list T23) x) : Ev (fun k => laws_eqTempoS k x x) true := by
  have hL : x.length ≤ 1048576 := h.1
  refine Ev.eq (fun k => laws_eqTempoS_eq k x x) (Ev.neg (by simp) (Ev.loop (f := fun k m => laws_eqTempoS.l0 k m x x 0) ?_))
  obtain ⟨r, er, hr⟩ := loop_all (F := fun i k m => laws_eqTempoS.l0 k m x x i) (n := x.length) (fun _ => True) (E2.eq (fun k m => laws_eqTempoS.l0_eq k m x x _) (E2.neg (by omega) E2.ret)) (fun i hi _ v e => by
    refine E2.eq (fun k m => laws_eqTempoS.l0_eq k m x x _) (E2.pos (by omega) (E2.pos (by omega) (E2.pos (by omega) (E2.pos (by omega) (E2.pos (by omega) (E2.bind (laws_eqTempo_self _ (bk_rd h hi)) (E2.neg (by simp) ?_)))))))
    rw [wrapS (by omega)]; exact e) (fun i hi hq => (hq trivial).elim)
  exact er.val (hr.2 fun _ _ => trivial)
theorem laws_eqTempoS_selfL (x : (List DT23)) (hL : x.length ≤ 4194304) : Ev (fun k => laws_eqTempoS k x x) true := by
  refine Ev.eq (fun k => laws_eqTempoS_eq k x x) (Ev.neg (by simp) (Ev.loop (f := fun k m => laws_eqTempoS.l0 k m x x 0) ?_))
  obtain ⟨r, er, hr⟩ := loop_all (F := fun i k m => laws_eqTempoS.l0 k m x x i) (n := x.length) (fun _ => True) (E2.eq (fun k m => laws_eqTempoS.l0_eq k m x x _) (E2.neg (by omega) E2.ret)) (fun i hi _ v e => by
    refine E2.eq (fun k m => laws_eqTempoS.l0_eq k m x x _) (E2.pos (by omega) (E2.pos (by omega) (E2.pos (by omega) (E2.pos (by omega) (E2.pos (by omega) (E2.bind (laws_eqTempo_self _ (bk_flat _ rfl)) (E2.neg (by simp) ?_)))))))
    rw [wrapS (by omega)]; exact e) (fun i hi hq => (hq trivial).elim)
  exact er.val (hr.2 fun _ _ => trivial)
theorem laws_eqIntS_self (x : (List Int)) (h : Bk (.list (.int .i64)) x) : Ev (fun k => laws_eqIntS k x x) true := by
  have hL : x.length ≤ 1048576 := h.1
  refine Ev.eq (fun k => laws_eqIntS_eq k x x) (Ev.neg (by simp) (Ev.loop (f := fun k m => laws_eqIntS.l0 k m x x 0) ?_))
  obtain ⟨r, er, hr⟩ := loop_all (F := fun i k m => laws_eqIntS.l0 k m x x i) (n := x.length) (fun _ => True) (E2.eq (fun k m => laws_eqIntS.l0_eq k m x x _) (E2.neg (by omega) E2.ret)) (fun i hi _ v e => by
    refine E2.eq (fun k m => laws_eqIntS.l0_eq k m x x _) (E2.pos (by omega) (E2.pos (by omega) (E2.pos (by omega) (E2.pos (by omega) (E2.pos (by omega) (E2.neg (by simp) ?_))))))
    rw [wrapS (by omega)]; exact e) (fun i hi hq => (hq trivial).elim)
  exact er.val (hr.2 fun _ _ => trivial)
theorem laws_eqIntS_selfL (x : (List Int)) (hL : x.length ≤ 4194304) : Ev (fun k => laws_eqIntS k x x) true := by
  refine Ev.eq (fun k => laws_eqIntS_eq k x x) (Ev.neg (by simp) (Ev.loop (f := fun k m => laws_eqIntS.l0 k m x x 0) ?_))
  obtain ⟨r, er, hr⟩ := loop_all (F := fun i k m => laws_eqIntS.l0 k m x x i) (n := x.length) (fun _ => True) (E2.eq (fun k m => laws_eqIntS.l0_eq k m x x _) (E2.neg (by omega) E2.ret)) (fun i hi _ v e => by
    refine E2.eq (fun k m => laws_eqIntS.l0_eq k m x x _) (E2.pos (by omega) (E2.pos (by omega) (E2.pos (by omega) (E2.pos (by omega) (E2.pos (by omega) (E2.neg (by simp) ?_))))))
    rw [wrapS (by omega)]; exact e) (fun i hi hq => (hq trivial).elim)
  exact er.val (hr.2 fun _ _ => trivial)
theorem laws_eqPlayer_self (x : DT90) (h : Bk T90 x) : Ev (fun k => laws_eqPlayer k x x) true := Ev.eq (fun k => laws_eqPlayer_eq k x x) (Ev.neg (by simp) (Ev.neg (by simp) (Ev.neg (by simp) (Ev.bind (laws_eqIntS_self _ h.2.2.2.1) (Ev.neg (by simp) Ev.ret)))))
theorem laws_eqPlayerS_self (x : (List DT90)) (h : Bk (.dlist T90) x) : Ev (fun k => laws_eqPlayerS k x x) true := by
  have hL : x.length ≤ 1048576 := h.1
  refine Ev.eq (fun k => laws_eqPlayerS_eq k x x) (Ev.neg (by simp) (Ev.loop (f := fun k m => laws_eqPlayerS.l0 k m x x 0) ?_))
  obtain ⟨r, er, hr⟩ := loop_all (F := fun i k m => laws_eqPlayerS.l0 k m x x i) (n := x.length) (fun _ => True) (E2.eq (fun k m => laws_eqPlayerS.l0_eq k m x x _) (E2.neg (by omega) E2.ret)) (fun i hi _ v e => by
    refine E2.eq (fun k m => laws_eqPlayerS.l0_eq k m x x _) (E2.pos (by omega) (E2.pos (by omega) (E2.pos (by omega) (E2.pos (by omega) (E2.pos (by omega) (E2.bind (laws_eqPlayer_self _ (bk_rd h hi)) (E2.neg (by simp) ?_)))))))
    rw [wrapS (by omega)]; exact e) (fun i hi hq => (hq trivial).elim)
  exact er.val (hr.2 fun _ _ => trivial)
theorem laws_eqMark_self (x : DT110) (h : Bk T110 x) : Ev (fun k => laws_eqMark k x x) true := Ev.eq (fun k => laws_eqMark_eq k x x) (Ev.neg (by simp) (Ev.neg (by simp) (Ev.neg (by simp) (Ev.neg (by simp) (Ev.neg (by simp) Ev.ret)))))
theorem laws_eqMarkS_self (x : (List DT110)) (h : Bk (.list T110) x) : Ev (fun k => laws_eqMarkS k x x) true := by
  have hL : x.length ≤ 1048576 := h.1
  refine Ev.eq (fun k => laws_eqMarkS_eq k x x) (Ev.neg (by simp) (Ev.loop (f := fun k m => laws_eqMarkS.l0 k m x x 0) ?_))
  obtain ⟨r, er, hr⟩ := loop_all (F := fun i k m => laws_eqMarkS.l0 k m x x i) (n := x.length) (fun _ => True) (E2.eq (fun k m => laws_eqMarkS.l0_eq k m x x _) (E2.neg (by omega) E2.ret)) (fun i hi _ v e => by
    refine E2.eq (fun k m => laws_eqMarkS.l0_eq k m x x _) (E2.pos (by omega) (E2.pos (by omega) (E2.pos (by omega) (E2.pos (by omega) (E2.pos (by omega) (E2.bind (laws_eqMark_self _ (bk_rd h hi)) (E2.neg (by simp) ?_)))))))
    rw [wrapS (by omega)]; exact e) (fun i hi hq => (hq trivial).elim)
  exact er.val (hr.2 fun _ _ => trivial)
theorem laws_eqMarkS_selfL (x : (List DT110)) (hL : x.length ≤ 4194304) : Ev (fun k => laws_eqMarkS k x x) true := by
  refine Ev.eq (fun k => laws_eqMarkS_eq k x x) (Ev.neg (by simp) (Ev.loop (f := fun k m => laws_eqMarkS.l0 k m x x 0) ?_))
  obtain ⟨r, er, hr⟩ := loop_all (F := fun i k m => laws_eqMarkS.l0 k m x x i) (n := x.length) (fun _ => True) (E2.eq (fun k m => laws_eqMarkS.l0_eq k m x x _) (E2.neg (by omega) E2.ret)) (fun i hi _ v e => by
    refine E2.eq (fun k m => laws_eqMarkS.l0_eq k m x x _) (E2.pos (by omega) (E2.pos (by omega) (E2.pos (by omega) (E2.pos (by omega) (E2.pos (by omega) (E2.bind (laws_eqMark_self _ (bk_flat _ rfl)) (E2.neg (by simp) ?_)))))))
    rw [wrapS (by omega)]; exact e) (fun i hi hq => (hq trivial).elim)
  exact er.val (hr.2 fun _ _ => trivial)
theorem laws_eqLetter_self (x : DT23) (h : Bk T23 x) : Ev (fun k => laws_eqLetter k x x) true := Ev.eq (fun k => laws_eqLetter_eq k x x) (Ev.neg (by simp) (Ev.neg (by simp) Ev.ret))
theorem laws_eqLetterS_self (x : (List DT23)) (h : Bk (.list T23) x) : Ev (fun k => laws_eqLetterS k x x) true := by
  have hL : x.length ≤ 1048576 := h.1
  refine Ev.eq (fun k => laws_eqLetterS_eq k x x) (Ev.neg (by simp) (Ev.loop (f := fun k m => laws_eqLetterS.l0 k m x x 0) ?_))
  obtain ⟨r, er, hr⟩ := loop_all (F := fun i k m => laws_eqLetterS.l0 k m x x i) (n := x.length) (fun _ => True) (E2.eq (fun k m => laws_eqLetterS.l0_eq k m x x _) (E2.neg (by omega) E2.ret)) (fun i hi _ v e => by
    refine E2.eq (fun k m => laws_eqLetterS.l0_eq k m x x _) (E2.pos (by omega) (E2.pos (by omega) (E2.pos (by omega) (E2.pos (by omega) (E2.pos (by omega) (E2.bind (laws_eqLetter_self _ (bk_rd h hi)) (E2.neg (by simp) ?_)))))))
    rw [wrapS (by omega)]; exact e) (fun i hi hq => (hq trivial).elim)
  exact er.val (hr.2 fun _ _ => trivial)
theorem laws_eqLetterS_selfL (x : (List DT23)) (hL : x.length ≤ 4194304) : Ev (fun k => laws_eqLetterS k x x) true := by
  refine Ev.eq (fun k => laws_eqLetterS_eq k x x) (Ev.neg (by simp) (Ev.loop (f := fun k m => laws_eqLetterS.l0 k m x x 0) ?_))
  obtain ⟨r, er, hr⟩ := loop_all (F := fun i k m => laws_eqLetterS.l0 k m x x i) (n := x.length) (fun _ => True) (E2.eq (fun k m => laws_eqLetterS.l0_eq k m x x _) (E2.neg (by omega) E2.ret)) (fun i hi _ v e => by
    refine E2.eq (fun k m => laws_eqLetterS.l0_eq k m x x _) (E2.pos (by omega) (E2.pos (by omega) (E2.pos (by omega) (E2.pos (by omega) (E2.pos (by omega) (E2.bind (laws_eqLetter_self _ (bk_flat _ rfl)) (E2.neg (by simp) ?_)))))))
    rw [wrapS (by omega)]; exact e) (fun i hi hq => (hq trivial).elim)
  exact er.val (hr.2 fun _ _ => trivial)
theorem laws_eqOrchestra_self (x : DT30) (h : Bk T30 x) : Ev (fun k => laws_eqOrchestra k x x) true := Ev.eq (fun k => laws_eqOrchestra_eq k x x) (Ev.bind (laws_eqEventS_self _ h.1) (Ev.neg (by simp) (Ev.bind (laws_eqMeter_self _ h.2.1) (Ev.neg (by simp) (Ev.bind (laws_eqTempoS_self _ h.2.2.1) (Ev.neg (by simp) (Ev.bind (laws_eqPlayerS_self _ h.2.2.2.1) (Ev.neg (by simp) (Ev.bind (laws_eqIntS_self _ h.2.2.2.2.1) (Ev.neg (by simp) (Ev.bind (laws_eqMarkS_self _ h.2.2.2.2.2.1) (Ev.neg (by simp) (Ev.bind (laws_eqLetterS_self _ h.2.2.2.2.2.2.1) (Ev.neg (by simp) (Ev.neg (by simp) (Ev.neg (by simp) Ev.ret))))))))))))))))
end Go.QFnExactArePartsTrue
