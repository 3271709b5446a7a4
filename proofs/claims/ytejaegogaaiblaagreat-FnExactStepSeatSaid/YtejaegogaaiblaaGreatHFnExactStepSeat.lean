/- The law's helpers. No condition. -/
import Derived.Test.YtejaegogaaiblaaGreatQFnExactStepSeat
import Derived.Test.YtejaegogaaiblaaGreatPur
set_option linter.unusedVariables false
set_option linter.unusedSimpArgs false
open Go Go.Flat
namespace Go.QFnExactStepSeat
theorem laws_szEventS_ok (x : (List DT49)) (w : Wd (.list T49) x) (n : Int) (hn : 0 ≤ n) (hm : n ≤ 1048576) : ∃ r, Ev (fun k => laws_szEventS k x n) r ∧ (r < 0 ∨ 0 ≤ r ∧ r ≤ n ∧ Bk (.list T49) x) := by
  have hl : x.length ≤ 9223372036854775807 := w.1
  by_cases c : n - (x.length : Int) < 0
  · exact ⟨-1, Ev.eq (fun k => laws_szEventS_eq k x n) (Ev.pos (by rw [wrapI (by omega) (by omega)]; omega) Ev.ret), .inl (by omega)⟩
  · exact ⟨n - x.length, Ev.eq (fun k => laws_szEventS_eq k x n) (Ev.neg (by rw [wrapI (by omega) (by omega)]; omega) (Ev.ret.val (wrapI (by omega) (by omega)))), .inr ⟨by omega, by omega, show Bk (.list T49) x from bk_list (by omega) fun i hi => bk_flat _ rfl⟩⟩
theorem laws_szTempoS_ok (x : (List DT23)) (w : Wd (.list T23) x) (n : Int) (hn : 0 ≤ n) (hm : n ≤ 1048576) : ∃ r, Ev (fun k => laws_szTempoS k x n) r ∧ (r < 0 ∨ 0 ≤ r ∧ r ≤ n ∧ Bk (.list T23) x) := by
  have hl : x.length ≤ 9223372036854775807 := w.1
  by_cases c : n - (x.length : Int) < 0
  · exact ⟨-1, Ev.eq (fun k => laws_szTempoS_eq k x n) (Ev.pos (by rw [wrapI (by omega) (by omega)]; omega) Ev.ret), .inl (by omega)⟩
  · exact ⟨n - x.length, Ev.eq (fun k => laws_szTempoS_eq k x n) (Ev.neg (by rw [wrapI (by omega) (by omega)]; omega) (Ev.ret.val (wrapI (by omega) (by omega)))), .inr ⟨by omega, by omega, show Bk (.list T23) x from bk_list (by omega) fun i hi => bk_flat _ rfl⟩⟩
theorem laws_szIntS_ok (x : (List Int)) (w : Wd (.list (.int .i64)) x) (n : Int) (hn : 0 ≤ n) (hm : n ≤ 1048576) : ∃ r, Ev (fun k => laws_szIntS k x n) r ∧ (r < 0 ∨ 0 ≤ r ∧ r ≤ n ∧ Bk (.list (.int .i64)) x) := by
  have hl : x.length ≤ 9223372036854775807 := w.1
  by_cases c : n - (x.length : Int) < 0
  · exact ⟨-1, Ev.eq (fun k => laws_szIntS_eq k x n) (Ev.pos (by rw [wrapI (by omega) (by omega)]; omega) Ev.ret), .inl (by omega)⟩
  · exact ⟨n - x.length, Ev.eq (fun k => laws_szIntS_eq k x n) (Ev.neg (by rw [wrapI (by omega) (by omega)]; omega) (Ev.ret.val (wrapI (by omega) (by omega)))), .inr ⟨by omega, by omega, show Bk (.list (.int .i64)) x from bk_list (by omega) fun i hi => bk_flat _ rfl⟩⟩
theorem laws_szPlayer_ok (x : DT61) (w : Wd T61 x) (n : Int) (hn : 0 ≤ n) (hm : n ≤ 1048576) : ∃ r, Ev (fun k => laws_szPlayer k x n) r ∧ (r < 0 ∨ 0 ≤ r ∧ r ≤ n ∧ Bk T61 x) := by
  obtain ⟨r0, e0, h0⟩ := laws_szIntS_ok x.2.2.2.1 w.2.2.2.1 n (by omega) (by omega)
  by_cases c0 : r0 < 0
  · exact ⟨-1, Ev.eq (fun k => laws_szPlayer_eq k x n) (Ev.bind e0 (Ev.pos c0 Ev.ret)), .inl (by omega)⟩
  replace h0 := h0.resolve_left c0
  exact ⟨r0, Ev.eq (fun k => laws_szPlayer_eq k x n) (Ev.bind e0 (Ev.neg c0 (Ev.ret))), .inr ⟨by omega, by omega, bk_flat _ rfl, bk_flat _ rfl, bk_flat _ rfl, h0.2.2, trivial⟩⟩
theorem laws_szPlayerS_ok (x : (List DT61)) (w : Wd (.dlist T61) x) (n : Int) (hn : 0 ≤ n) (hm : n ≤ 1048576) : ∃ r, Ev (fun k => laws_szPlayerS k x n) r ∧ (r < 0 ∨ 0 ≤ r ∧ r ≤ n ∧ Bk (.dlist T61) x) := by
  have hl : x.length ≤ 9223372036854775807 := w.1
  by_cases c : n - (x.length : Int) < 0
  · exact ⟨-1, Ev.eq (fun k => laws_szPlayerS_eq k x n) (Ev.pos (by rw [wrapI (by omega) (by omega)]; omega) Ev.ret), .inl (by omega)⟩
  · obtain ⟨r, e, h⟩ := loop_sz (t := T61) (x := x) (F := fun i n k m => laws_szPlayerS.l0 k m x n i) (fun n => E2.eq (fun k m => laws_szPlayerS.l0_eq k m x n _) (E2.neg (by omega) E2.ret)) (fun i hi n hn hm => by
      obtain ⟨r0, e0, h0⟩ := laws_szPlayer_ok (rd T61 x (i : Int)) (wd_rd w hi) n hn hm
      by_cases c : r0 < 0
      · exact .inl ⟨-1, by omega, E2.eq (fun k m => laws_szPlayerS.l0_eq k m x n _) (E2.pos (by omega) (E2.pos (by omega) (E2.pos (by omega) (E2.bind e0 (E2.pos c E2.ret)))))⟩
      · have h0 := h0.resolve_left c
        refine .inr ⟨r0, h0.1, h0.2.1, h0.2.2, fun v e => E2.eq (fun k m => laws_szPlayerS.l0_eq k m x n _) (E2.pos (by omega) (E2.pos (by omega) (E2.pos (by omega) (E2.bind e0 (E2.neg c ?_)))))⟩
        rw [wrapS (by omega)]; exact e) (n - x.length) (by omega) (by omega)
    refine ⟨r, Ev.eq (fun k => laws_szPlayerS_eq k x n) (Ev.neg (by rw [wrapI (by omega) (by omega)]; omega) (Ev.loop (f := fun k m => laws_szPlayerS.l0 k m x (IntKind.wrap .i64 (n - ((List.length x : Nat) : Int))) 0) ?_)), h.imp id fun h => ⟨h.1, by omega, show Bk (.list T61) x from bk_list (by omega) h.2.2⟩⟩
    rw [wrapI (by omega) (by omega)]
    exact e
theorem laws_szMarkS_ok (x : (List DT131)) (w : Wd (.list T131) x) (n : Int) (hn : 0 ≤ n) (hm : n ≤ 1048576) : ∃ r, Ev (fun k => laws_szMarkS k x n) r ∧ (r < 0 ∨ 0 ≤ r ∧ r ≤ n ∧ Bk (.list T131) x) := by
  have hl : x.length ≤ 9223372036854775807 := w.1
  by_cases c : n - (x.length : Int) < 0
  · exact ⟨-1, Ev.eq (fun k => laws_szMarkS_eq k x n) (Ev.pos (by rw [wrapI (by omega) (by omega)]; omega) Ev.ret), .inl (by omega)⟩
  · exact ⟨n - x.length, Ev.eq (fun k => laws_szMarkS_eq k x n) (Ev.neg (by rw [wrapI (by omega) (by omega)]; omega) (Ev.ret.val (wrapI (by omega) (by omega)))), .inr ⟨by omega, by omega, show Bk (.list T131) x from bk_list (by omega) fun i hi => bk_flat _ rfl⟩⟩
theorem laws_szLetterS_ok (x : (List DT23)) (w : Wd (.list T23) x) (n : Int) (hn : 0 ≤ n) (hm : n ≤ 1048576) : ∃ r, Ev (fun k => laws_szLetterS k x n) r ∧ (r < 0 ∨ 0 ≤ r ∧ r ≤ n ∧ Bk (.list T23) x) := by
  have hl : x.length ≤ 9223372036854775807 := w.1
  by_cases c : n - (x.length : Int) < 0
  · exact ⟨-1, Ev.eq (fun k => laws_szLetterS_eq k x n) (Ev.pos (by rw [wrapI (by omega) (by omega)]; omega) Ev.ret), .inl (by omega)⟩
  · exact ⟨n - x.length, Ev.eq (fun k => laws_szLetterS_eq k x n) (Ev.neg (by rw [wrapI (by omega) (by omega)]; omega) (Ev.ret.val (wrapI (by omega) (by omega)))), .inr ⟨by omega, by omega, show Bk (.list T23) x from bk_list (by omega) fun i hi => bk_flat _ rfl⟩⟩
theorem laws_szOrchestra_ok (x : DT30) (w : Wd T30 x) (n : Int) (hn : 0 ≤ n) (hm : n ≤ 1048576) : ∃ r, Ev (fun k => laws_szOrchestra k x n) r ∧ (r < 0 ∨ 0 ≤ r ∧ r ≤ n ∧ Bk T30 x) := by
  obtain ⟨r0, e0, h0⟩ := laws_szEventS_ok x.1 w.1 n (by omega) (by omega)
  by_cases c0 : r0 < 0
  · exact ⟨-1, Ev.eq (fun k => laws_szOrchestra_eq k x n) (Ev.bind e0 (Ev.pos c0 Ev.ret)), .inl (by omega)⟩
  replace h0 := h0.resolve_left c0
  obtain ⟨r1, e1, h1⟩ := laws_szTempoS_ok x.2.2.1 w.2.2.1 r0 (by omega) (by omega)
  by_cases c1 : r1 < 0
  · exact ⟨-1, Ev.eq (fun k => laws_szOrchestra_eq k x n) (Ev.bind e0 (Ev.neg c0 (Ev.bind e1 (Ev.pos c1 Ev.ret)))), .inl (by omega)⟩
  replace h1 := h1.resolve_left c1
  obtain ⟨r2, e2, h2⟩ := laws_szPlayerS_ok x.2.2.2.1 w.2.2.2.1 r1 (by omega) (by omega)
  by_cases c2 : r2 < 0
  · exact ⟨-1, Ev.eq (fun k => laws_szOrchestra_eq k x n) (Ev.bind e0 (Ev.neg c0 (Ev.bind e1 (Ev.neg c1 (Ev.bind e2 (Ev.pos c2 Ev.ret)))))), .inl (by omega)⟩
  replace h2 := h2.resolve_left c2
  obtain ⟨r3, e3, h3⟩ := laws_szIntS_ok x.2.2.2.2.1 w.2.2.2.2.1 r2 (by omega) (by omega)
  by_cases c3 : r3 < 0
  · exact ⟨-1, Ev.eq (fun k => laws_szOrchestra_eq k x n) (Ev.bind e0 (Ev.neg c0 (Ev.bind e1 (Ev.neg c1 (Ev.bind e2 (Ev.neg c2 (Ev.bind e3 (Ev.pos c3 Ev.ret)))))))), .inl (by omega)⟩
  replace h3 := h3.resolve_left c3
  obtain ⟨r4, e4, h4⟩ := laws_szMarkS_ok x.2.2.2.2.2.1 w.2.2.2.2.2.1 r3 (by omega) (by omega)
  by_cases c4 : r4 < 0
  · exact ⟨-1, Ev.eq (fun k => laws_szOrchestra_eq k x n) (Ev.bind e0 (Ev.neg c0 (Ev.bind e1 (Ev.neg c1 (Ev.bind e2 (Ev.neg c2 (Ev.bind e3 (Ev.neg c3 (Ev.bind e4 (Ev.pos c4 Ev.ret)))))))))), .inl (by omega)⟩
  replace h4 := h4.resolve_left c4
  obtain ⟨r5, e5, h5⟩ := laws_szLetterS_ok x.2.2.2.2.2.2.1 w.2.2.2.2.2.2.1 r4 (by omega) (by omega)
  by_cases c5 : r5 < 0
  · exact ⟨-1, Ev.eq (fun k => laws_szOrchestra_eq k x n) (Ev.bind e0 (Ev.neg c0 (Ev.bind e1 (Ev.neg c1 (Ev.bind e2 (Ev.neg c2 (Ev.bind e3 (Ev.neg c3 (Ev.bind e4 (Ev.neg c4 (Ev.bind e5 (Ev.pos c5 Ev.ret)))))))))))), .inl (by omega)⟩
  replace h5 := h5.resolve_left c5
  exact ⟨r5, Ev.eq (fun k => laws_szOrchestra_eq k x n) (Ev.bind e0 (Ev.neg c0 (Ev.bind e1 (Ev.neg c1 (Ev.bind e2 (Ev.neg c2 (Ev.bind e3 (Ev.neg c3 (Ev.bind e4 (Ev.neg c4 (Ev.bind e5 (Ev.neg c5 (Ev.ret))))))))))))), .inr ⟨by omega, by omega, h0.2.2, bk_flat _ rfl, h1.2.2, h2.2.2, h3.2.2, h4.2.2, h5.2.2, bk_flat _ rfl, bk_flat _ rfl, trivial⟩⟩
theorem laws_toEvent_id (x : DT49) (h : Bk T49 x) : Ev (fun k => laws_toEvent k x) x := Ev.eq (fun k => laws_toEvent_eq k x) Ev.ret
theorem laws_toEventS_id (x : (List DT49)) (h : Bk (.list T49) x) : Ev (fun k => laws_toEventS k x) x := by
  have hL : x.length ≤ 1048576 := h.1
  refine Ev.eq (fun k => laws_toEventS_eq k x) (Ev.pos (by omega) (Ev.pos (by omega) (Ev.pos (by omega) (Ev.loop (f := fun k m => laws_toEventS.l0 k m x 0 (List.replicate (Int.toNat ((List.length x : Nat) : Int)) (Ty.dflt T49))) ?_))))
  have key := loop_map (t := T49) (u := T49) (F := fun i y k m => laws_toEventS.l0 k m x i y) (x := x) (fun a => a) (fun y => E2.eq (fun k m => laws_toEventS.l0_eq k m x _ y) (E2.neg (by omega) E2.ret)) (fun i y hi hy v e => by
    refine E2.eq (fun k m => laws_toEventS.l0_eq k m x _ y) (E2.pos (by omega) (E2.pos (by omega) (E2.pos (by omega) (E2.bind (laws_toEvent_id _ (bk_rd h hi)) (E2.pos (by omega) (E2.pos (by omega) ?_))))))
    rw [wrapS (by omega), Int.toNat_natCast]; exact e) (List.replicate (Int.toNat ((List.length x : Nat) : Int)) (Ty.dflt T49)) (by simp)
  exact key.val (by simp)
theorem laws_toMeter_id (x : DT23) (h : Bk T23 x) : Ev (fun k => laws_toMeter k x) x := Ev.eq (fun k => laws_toMeter_eq k x) Ev.ret
theorem laws_toTempo_id (x : DT23) (h : Bk T23 x) : Ev (fun k => laws_toTempo k x) x := Ev.eq (fun k => laws_toTempo_eq k x) Ev.ret
theorem laws_toTempoS_id (x : (List DT23)) (h : Bk (.list T23) x) : Ev (fun k => laws_toTempoS k x) x := by
  have hL : x.length ≤ 1048576 := h.1
  refine Ev.eq (fun k => laws_toTempoS_eq k x) (Ev.pos (by omega) (Ev.pos (by omega) (Ev.pos (by omega) (Ev.loop (f := fun k m => laws_toTempoS.l0 k m x 0 (List.replicate (Int.toNat ((List.length x : Nat) : Int)) (Ty.dflt T23))) ?_))))
  have key := loop_map (t := T23) (u := T23) (F := fun i y k m => laws_toTempoS.l0 k m x i y) (x := x) (fun a => a) (fun y => E2.eq (fun k m => laws_toTempoS.l0_eq k m x _ y) (E2.neg (by omega) E2.ret)) (fun i y hi hy v e => by
    refine E2.eq (fun k m => laws_toTempoS.l0_eq k m x _ y) (E2.pos (by omega) (E2.pos (by omega) (E2.pos (by omega) (E2.bind (laws_toTempo_id _ (bk_rd h hi)) (E2.pos (by omega) (E2.pos (by omega) ?_))))))
    rw [wrapS (by omega), Int.toNat_natCast]; exact e) (List.replicate (Int.toNat ((List.length x : Nat) : Int)) (Ty.dflt T23)) (by simp)
  exact key.val (by simp)
theorem laws_toIntS_id (x : (List Int)) (h : Bk (.list (.int .i64)) x) : Ev (fun k => laws_toIntS k x) x := by
  have hL : x.length ≤ 1048576 := h.1
  refine Ev.eq (fun k => laws_toIntS_eq k x) (Ev.pos (by omega) (Ev.pos (by omega) (Ev.pos (by omega) (Ev.loop (f := fun k m => laws_toIntS.l0 k m x 0 (List.replicate (Int.toNat ((List.length x : Nat) : Int)) (Ty.dflt (.int .i64)))) ?_))))
  have key := loop_map (t := (.int .i64)) (u := (.int .i64)) (F := fun i y k m => laws_toIntS.l0 k m x i y) (x := x) (fun a => a) (fun y => E2.eq (fun k m => laws_toIntS.l0_eq k m x _ y) (E2.neg (by omega) E2.ret)) (fun i y hi hy v e => by
    refine E2.eq (fun k m => laws_toIntS.l0_eq k m x _ y) (E2.pos (by omega) (E2.pos (by omega) (E2.pos (by omega) (E2.pos (by omega) (E2.pos (by omega) ?_)))))
    rw [wrapS (by omega), Int.toNat_natCast]; exact e) (List.replicate (Int.toNat ((List.length x : Nat) : Int)) (Ty.dflt (.int .i64))) (by simp)
  exact key.val (by simp)
theorem laws_toPlayer_id (x : DT61) (h : Bk T61 x) : Ev (fun k => laws_toPlayer k x) x := Ev.eq (fun k => laws_toPlayer_eq k x) (Ev.bind (laws_toIntS_id _ h.2.2.2.1) Ev.ret)
theorem laws_toPlayerS_id (x : (List DT61)) (h : Bk (.dlist T61) x) : Ev (fun k => laws_toPlayerS k x) x := by
  have hL : x.length ≤ 1048576 := h.1
  refine Ev.eq (fun k => laws_toPlayerS_eq k x) (Ev.pos (by omega) (Ev.pos (by omega) (Ev.pos (by omega) (Ev.loop (f := fun k m => laws_toPlayerS.l0 k m x 0 (List.replicate (Int.toNat ((List.length x : Nat) : Int)) (Ty.dflt T61))) ?_))))
  have key := loop_map (t := T61) (u := T61) (F := fun i y k m => laws_toPlayerS.l0 k m x i y) (x := x) (fun a => a) (fun y => E2.eq (fun k m => laws_toPlayerS.l0_eq k m x _ y) (E2.neg (by omega) E2.ret)) (fun i y hi hy v e => by
    refine E2.eq (fun k m => laws_toPlayerS.l0_eq k m x _ y) (E2.pos (by omega) (E2.pos (by omega) (E2.pos (by omega) (E2.bind (laws_toPlayer_id _ (bk_rd h hi)) (E2.pos (by omega) (E2.pos (by omega) ?_))))))
    rw [wrapS (by omega), Int.toNat_natCast]; exact e) (List.replicate (Int.toNat ((List.length x : Nat) : Int)) (Ty.dflt T61)) (by simp)
  exact key.val (by simp)
theorem laws_toMark_id (x : DT131) (h : Bk T131 x) : Ev (fun k => laws_toMark k x) x := Ev.eq (fun k => laws_toMark_eq k x) Ev.ret
theorem laws_toMarkS_id (x : (List DT131)) (h : Bk (.list T131) x) : Ev (fun k => laws_toMarkS k x) x := by
  have hL : x.length ≤ 1048576 := h.1
  refine Ev.eq (fun k => laws_toMarkS_eq k x) (Ev.pos (by omega) (Ev.pos (by omega) (Ev.pos (by omega) (Ev.loop (f := fun k m => laws_toMarkS.l0 k m x 0 (List.replicate (Int.toNat ((List.length x : Nat) : Int)) (Ty.dflt T131))) ?_))))
  have key := loop_map (t := T131) (u := T131) (F := fun i y k m => laws_toMarkS.l0 k m x i y) (x := x) (fun a => a) (fun y => E2.eq (fun k m => laws_toMarkS.l0_eq k m x _ y) (E2.neg (by omega) E2.ret)) (fun i y hi hy v e => by
    refine E2.eq (fun k m => laws_toMarkS.l0_eq k m x _ y) (E2.pos (by omega) (E2.pos (by omega) (E2.pos (by omega) (E2.bind (laws_toMark_id _ (bk_rd h hi)) (E2.pos (by omega) (E2.pos (by omega) ?_))))))
    rw [wrapS (by omega), Int.toNat_natCast]; exact e) (List.replicate (Int.toNat ((List.length x : Nat) : Int)) (Ty.dflt T131)) (by simp)
  exact key.val (by simp)
theorem laws_toLetter_id (x : DT23) (h : Bk T23 x) : Ev (fun k => laws_toLetter k x) x := Ev.eq (fun k => laws_toLetter_eq k x) Ev.ret
theorem laws_toLetterS_id (x : (List DT23)) (h : Bk (.list T23) x) : Ev (fun k => laws_toLetterS k x) x := by
  have hL : x.length ≤ 1048576 := h.1
  refine Ev.eq (fun k => laws_toLetterS_eq k x) (Ev.pos (by omega) (Ev.pos (by omega) (Ev.pos (by omega) (Ev.loop (f := fun k m => laws_toLetterS.l0 k m x 0 (List.replicate (Int.toNat ((List.length x : Nat) : Int)) (Ty.dflt T23))) ?_))))
  have key := loop_map (t := T23) (u := T23) (F := fun i y k m => laws_toLetterS.l0 k m x i y) (x := x) (fun a => a) (fun y => E2.eq (fun k m => laws_toLetterS.l0_eq k m x _ y) (E2.neg (by omega) E2.ret)) (fun i y hi hy v e => by
    refine E2.eq (fun k m => laws_toLetterS.l0_eq k m x _ y) (E2.pos (by omega) (E2.pos (by omega) (E2.pos (by omega) (E2.bind (laws_toLetter_id _ (bk_rd h hi)) (E2.pos (by omega) (E2.pos (by omega) ?_))))))
    rw [wrapS (by omega), Int.toNat_natCast]; exact e) (List.replicate (Int.toNat ((List.length x : Nat) : Int)) (Ty.dflt T23)) (by simp)
  exact key.val (by simp)
theorem laws_toOrchestra_id (x : DT30) (h : Bk T30 x) : Ev (fun k => laws_toOrchestra k x) x := Ev.eq (fun k => laws_toOrchestra_eq k x) (Ev.bind (laws_toEventS_id _ h.1) (Ev.bind (laws_toMeter_id _ h.2.1) (Ev.bind (laws_toTempoS_id _ h.2.2.1) (Ev.bind (laws_toPlayerS_id _ h.2.2.2.1) (Ev.bind (laws_toIntS_id _ h.2.2.2.2.1) (Ev.bind (laws_toMarkS_id _ h.2.2.2.2.2.1) (Ev.bind (laws_toLetterS_id _ h.2.2.2.2.2.2.1) Ev.ret)))))))
theorem laws_eqEvent_self (x : DT49) (h : Bk T49 x) : Ev (fun k => laws_eqEvent k x x) true := Ev.eq (fun k => laws_eqEvent_eq k x x) (Ev.neg (by simp) (Ev.neg (by simp) (Ev.neg (by simp) (Ev.neg (by simp) Ev.ret))))
theorem laws_eqEventS_self (x : (List DT49)) (h : Bk (.list T49) x) : Ev (fun k => laws_eqEventS k x x) true := by
  have hL : x.length ≤ 1048576 := h.1
  refine Ev.eq (fun k => laws_eqEventS_eq k x x) (Ev.neg (by simp) (Ev.loop (f := fun k m => laws_eqEventS.l0 k m x x 0) ?_))
  obtain ⟨r, er, hr⟩ := loop_all (F := fun i k m => laws_eqEventS.l0 k m x x i) (n := x.length) (fun _ => True) (E2.eq (fun k m => laws_eqEventS.l0_eq k m x x _) (E2.neg (by omega) E2.ret)) (fun i hi _ v e => by
    refine E2.eq (fun k m => laws_eqEventS.l0_eq k m x x _) (E2.pos (by omega) (E2.pos (by omega) (E2.pos (by omega) (E2.pos (by omega) (E2.pos (by omega) (E2.bind (laws_eqEvent_self _ (bk_rd h hi)) (E2.neg (by simp) ?_)))))))
    rw [wrapS (by omega)]; exact e) (fun i hi hq => (hq trivial).elim)
  exact er.val (hr.2 fun _ _ => trivial)
theorem laws_eqEventS_selfL (x : (List DT49)) (hL : x.length ≤ 4194304) : Ev (fun k => laws_eqEventS k x x) true := by
  refine Ev.eq (fun k => laws_eqEventS_eq k x x) (Ev.neg (by simp) (Ev.loop (f := fun k m => laws_eqEventS.l0 k m x x 0) ?_))
  obtain ⟨r, er, hr⟩ := loop_all (F := fun i k m => laws_eqEventS.l0 k m x x i) (n := x.length) (fun _ => True) (E2.eq (fun k m => laws_eqEventS.l0_eq k m x x _) (E2.neg (by omega) E2.ret)) (fun i hi _ v e => by
    refine E2.eq (fun k m => laws_eqEventS.l0_eq k m x x _) (E2.pos (by omega) (E2.pos (by omega) (E2.pos (by omega) (E2.pos (by omega) (E2.pos (by omega) (E2.bind (laws_eqEvent_self _ (bk_flat _ rfl)) (E2.neg (by simp) ?_)))))))
    rw [wrapS (by omega)]; exact e) (fun i hi hq => (hq trivial).elim)
  exact er.val (hr.2 fun _ _ => trivial)
theorem laws_eqMeter_self (x : DT23) (h : Bk T23 x) : Ev (fun k => laws_eqMeter k x x) true := Ev.eq (fun k => laws_eqMeter_eq k x x) (Ev.neg (by simp) (Ev.neg (by simp) Ev.ret))
theorem laws_eqTempo_self (x : DT23) (h : Bk T23 x) : Ev (fun k => laws_eqTempo k x x) true := Ev.eq (fun k => laws_eqTempo_eq k x x) (Ev.neg (by simp) (Ev.neg (by simp) Ev.ret))
theorem laws_eqTempoS_self (x : (List DT23)) (h : Bk (.list T23) x) : Ev (fun k => laws_eqTempoS k x x) true := by
  have hL : x.length ≤ 1048576 := h.1
  refine Ev.eq (fun k => laws_eqTempoS_eq k x x) (Ev.neg (by simp) (Ev.loop (f := fun k m => laws_eqTempoS.l0 k m x x 0) ?_))
  obtain ⟨r, er, hr⟩ := loop_all (F := fun i k m => laws_eqTempoS.l0 k m x x i) (n := x.length) (fun _ => True) (E2.eq (fun k m => laws_eqTempoS.l0_eq k m x x _) (E2.neg (by omega) E2.ret)) (fun i hi _ v e => by
    refine E2.eq (fun k m => laws_eqTempoS.l0_eq k m x x _) (E2.pos (by omega) (E2.pos (by omega) (E2.pos (by omega) (E2.pos (by omega) (E2.pos (by omega) (E2.bind (laws_eqTempo_self _ (bk_rd h hi)) (E2.neg (by simp) ?_)))))))
    rw [wrapS (by omega)]; exact e) (fun i hi hq => (hq trivial).elim)
  exact er.val (hr.2 fun _ _ => trivial)
theorem laws_eqTempoS_selfL (x : (List DT23)) (hL : x.length ≤ 4194304) : Ev (fun k => laws_eqTempoS k x x) true := by
  refine Ev.eq (fun k => laws_eqTempoS_eq k x x) (Ev.neg (by simp) (Ev.loop (f := fun k m => laws_eqTempoS.l0 k m x x 0) ?_))
  obtain ⟨r, er, hr⟩ := loop_all (F := fun i k m => laws_eqTempoS.l0 k m x x i) (n := x.length) (fun _ => True) (E2.eq (fun k m => laws_eqTempoS.l0_eq k m x x _) (E2.neg (by omega) E2.ret)) (fun i hi _ v e => by
    refine E2.eq (fun k m => laws_eqTempoS.l0_eq k m x x _) (E2.pos (by omega) (E2.pos (by omega) (E2.pos (by omega) (E2.pos (by omega) (E2.pos (by omega) (E2.bind (laws_eqTempo_self _ (bk_flat _ rfl)) (E2.neg (by simp) ?_)))))))
    rw [wrapS (by omega)]; exact e) (fun i hi hq => (hq trivial).elim)
  exact er.val (hr.2 fun _ _ => trivial)
theorem laws_eqIntS_self (x : (List Int)) (h : Bk (.list (.int .i64)) x) : Ev (fun k => laws_eqIntS k x x) true := by
  have hL : x.length ≤ 1048576 := h.1
  refine Ev.eq (fun k => laws_eqIntS_eq k x x) (Ev.neg (by simp) (Ev.loop (f := fun k m => laws_eqIntS.l0 k m x x 0) ?_))
  obtain ⟨r, er, hr⟩ := loop_all (F := fun i k m => laws_eqIntS.l0 k m x x i) (n := x.length) (fun _ => True) (E2.eq (fun k m => laws_eqIntS.l0_eq k m x x _) (E2.neg (by omega) E2.ret)) (fun i hi _ v e => by
    refine E2.eq (fun k m => laws_eqIntS.l0_eq k m x x _) (E2.pos (by omega) (E2.pos (by omega) (E2.pos (by omega) (E2.pos (by omega) (E2.pos (by omega) (E2.neg (by simp) ?_))))))
    rw [wrapS (by omega)]; exact e) (fun i hi hq => (hq trivial).elim)
  exact er.val (hr.2 fun _ _ => trivial)
theorem laws_eqIntS_selfL (x : (List Int)) (hL : x.length ≤ 4194304) : Ev (fun k => laws_eqIntS k x x) true := by
  refine Ev.eq (fun k => laws_eqIntS_eq k x x) (Ev.neg (by simp) (Ev.loop (f := fun k m => laws_eqIntS.l0 k m x x 0) ?_))
  obtain ⟨r, er, hr⟩ := loop_all (F := fun i k m => laws_eqIntS.l0 k m x x i) (n := x.length) (fun _ => True) (E2.eq (fun k m => laws_eqIntS.l0_eq k m x x _) (E2.neg (by omega) E2.ret)) (fun i hi _ v e => by
    refine E2.eq (fun k m => laws_eqIntS.l0_eq k m x x _) (E2.pos (by omega) (E2.pos (by omega) (E2.pos (by omega) (E2.pos (by omega) (E2.pos (by omega) (E2.neg (by simp) ?_))))))
    rw [wrapS (by omega)]; exact e) (fun i hi hq => (hq trivial).elim)
  exact er.val (hr.2 fun _ _ => trivial)
theorem laws_eqPlayer_self (x : DT61) (h : Bk T61 x) : Ev (fun k => laws_eqPlayer k x x) true := Ev.eq (fun k => laws_eqPlayer_eq k x x) (Ev.neg (by simp) (Ev.neg (by simp) (Ev.neg (by simp) (Ev.bind (laws_eqIntS_self _ h.2.2.2.1) (Ev.neg (by simp) Ev.ret)))))
theorem laws_eqPlayerS_self (x : (List DT61)) (h : Bk (.dlist T61) x) : Ev (fun k => laws_eqPlayerS k x x) true := by
  have hL : x.length ≤ 1048576 := h.1
  refine Ev.eq (fun k => laws_eqPlayerS_eq k x x) (Ev.neg (by simp) (Ev.loop (f := fun k m => laws_eqPlayerS.l0 k m x x 0) ?_))
  obtain ⟨r, er, hr⟩ := loop_all (F := fun i k m => laws_eqPlayerS.l0 k m x x i) (n := x.length) (fun _ => True) (E2.eq (fun k m => laws_eqPlayerS.l0_eq k m x x _) (E2.neg (by omega) E2.ret)) (fun i hi _ v e => by
    refine E2.eq (fun k m => laws_eqPlayerS.l0_eq k m x x _) (E2.pos (by omega) (E2.pos (by omega) (E2.pos (by omega) (E2.pos (by omega) (E2.pos (by omega) (E2.bind (laws_eqPlayer_self _ (bk_rd h hi)) (E2.neg (by simp) ?_)))))))
    rw [wrapS (by omega)]; exact e) (fun i hi hq => (hq trivial).elim)
  exact er.val (hr.2 fun _ _ => trivial)
theorem laws_eqMark_self (x : DT131) (h : Bk T131 x) : Ev (fun k => laws_eqMark k x x) true := Ev.eq (fun k => laws_eqMark_eq k x x) (Ev.neg (by simp) (Ev.neg (by simp) (Ev.neg (by simp) (Ev.neg (by simp) (Ev.neg (by simp) Ev.ret)))))
theorem laws_eqMarkS_self (x : (List DT131)) (h : Bk (.list T131) x) : Ev (fun k => laws_eqMarkS k x x) true := by
  have hL : x.length ≤ 1048576 := h.1
  refine Ev.eq (fun k => laws_eqMarkS_eq k x x) (Ev.neg (by simp) (Ev.loop (f := fun k m => laws_eqMarkS.l0 k m x x 0) ?_))
  obtain ⟨r, er, hr⟩ := loop_all (F := fun i k m => laws_eqMarkS.l0 k m x x i) (n := x.length) (fun _ => True) (E2.eq (fun k m => laws_eqMarkS.l0_eq k m x x _) (E2.neg (by omega) E2.ret)) (fun i hi _ v e => by
    refine E2.eq (fun k m => laws_eqMarkS.l0_eq k m x x _) (E2.pos (by omega) (E2.pos (by omega) (E2.pos (by omega) (E2.pos (by omega) (E2.pos (by omega) (E2.bind (laws_eqMark_self _ (bk_rd h hi)) (E2.neg (by simp) ?_)))))))
    rw [wrapS (by omega)]; exact e) (fun i hi hq => (hq trivial).elim)
  exact er.val (hr.2 fun _ _ => trivial)
theorem laws_eqMarkS_selfL (x : (List DT131)) (hL : x.length ≤ 4194304) : Ev (fun k => laws_eqMarkS k x x) true := by
  refine Ev.eq (fun k => laws_eqMarkS_eq k x x) (Ev.neg (by simp) (Ev.loop (f := fun k m => laws_eqMarkS.l0 k m x x 0) ?_))
  obtain ⟨r, er, hr⟩ := loop_all (F := fun i k m => laws_eqMarkS.l0 k m x x i) (n := x.length) (fun _ => True) (E2.eq (fun k m => laws_eqMarkS.l0_eq k m x x _) (E2.neg (by omega) E2.ret)) (fun i hi _ v e => by
    refine E2.eq (fun k m => laws_eqMarkS.l0_eq k m x x _) (E2.pos (by omega) (E2.pos (by omega) (E2.pos (by omega) (E2.pos (by omega) (E2.pos (by omega) (E2.bind (laws_eqMark_self _ (bk_flat _ rfl)) (E2.neg (by simp) ?_)))))))
    rw [wrapS (by omega)]; exact e) (fun i hi hq => (hq trivial).elim)
  exact er.val (hr.2 fun _ _ => trivial)
theorem laws_eqLetter_self (x : DT23) (h : Bk T23 x) : Ev (fun k => laws_eqLetter k x x) true := Ev.eq (fun k => laws_eqLetter_eq k x x) (Ev.neg (by simp) (Ev.neg (by simp) Ev.ret))
theorem laws_eqLetterS_self (x : (List DT23)) (h : Bk (.list T23) x) : Ev (fun k => laws_eqLetterS k x x) true := by
  have hL : x.length ≤ 1048576 := h.1
  refine Ev.eq (fun k => laws_eqLetterS_eq k x x) (Ev.neg (by simp) (Ev.loop (f := fun k m => laws_eqLetterS.l0 k m x x 0) ?_))
  obtain ⟨r, er, hr⟩ := loop_all (F := fun i k m => laws_eqLetterS.l0 k m x x i) (n := x.length) (fun _ => True) (E2.eq (fun k m => laws_eqLetterS.l0_eq k m x x _) (E2.neg (by omega) E2.ret)) (fun i hi _ v e => by
    refine E2.eq (fun k m => laws_eqLetterS.l0_eq k m x x _) (E2.pos (by omega) (E2.pos (by omega) (E2.pos (by omega) (E2.pos (by omega) (E2.pos (by omega) (E2.bind (laws_eqLetter_self _ (bk_rd h hi)) (E2.neg (by simp) ?_)))))))
    rw [wrapS (by omega)]; exact e) (fun i hi hq => (hq trivial).elim)
  exact er.val (hr.2 fun _ _ => trivial)
theorem laws_eqLetterS_selfL (x : (List DT23)) (hL : x.length ≤ 4194304) : Ev (fun k => laws_eqLetterS k x x) true := by
  refine Ev.eq (fun k => laws_eqLetterS_eq k x x) (Ev.neg (by simp) (Ev.loop (f := fun k m => laws_eqLetterS.l0 k m x x 0) ?_))
  obtain ⟨r, er, hr⟩ := loop_all (F := fun i k m => laws_eqLetterS.l0 k m x x i) (n := x.length) (fun _ => True) (E2.eq (fun k m => laws_eqLetterS.l0_eq k m x x _) (E2.neg (by omega) E2.ret)) (fun i hi _ v e => by
    refine E2.eq (fun k m => laws_eqLetterS.l0_eq k m x x _) (E2.pos (by omega) (E2.pos (by omega) (E2.pos (by omega) (E2.pos (by omega) (E2.pos (by omega) (E2.bind (laws_eqLetter_self _ (bk_flat _ rfl)) (E2.neg (by simp) ?_)))))))
    rw [wrapS (by omega)]; exact e) (fun i hi hq => (hq trivial).elim)
  exact er.val (hr.2 fun _ _ => trivial)
theorem laws_eqOrchestra_self (x : DT30) (h : Bk T30 x) : Ev (fun k => laws_eqOrchestra k x x) true := Ev.eq (fun k => laws_eqOrchestra_eq k x x) (Ev.bind (laws_eqEventS_self _ h.1) (Ev.neg (by simp) (Ev.bind (laws_eqMeter_self _ h.2.1) (Ev.neg (by simp) (Ev.bind (laws_eqTempoS_self _ h.2.2.1) (Ev.neg (by simp) (Ev.bind (laws_eqPlayerS_self _ h.2.2.2.1) (Ev.neg (by simp) (Ev.bind (laws_eqIntS_self _ h.2.2.2.2.1) (Ev.neg (by simp) (Ev.bind (laws_eqMarkS_self _ h.2.2.2.2.2.1) (Ev.neg (by simp) (Ev.bind (laws_eqLetterS_self _ h.2.2.2.2.2.2.1) (Ev.neg (by simp) (Ev.neg (by simp) (Ev.neg (by simp) Ev.ret))))))))))))))))
theorem laws_markEventS_ev (x : (List DT49)) (h : x.length ≤ 4194304) (q0 : Int) (h0 : 0 ≤ q0) (h1 : q0 ≤ 8796093022208) : Ev (fun k => laws_markEventS k x q0) (q0 + 4 * x.length, marks (fun q : Int => ((q, (q + 1, (q + 2, (q + 3, ())))) : DT49)) 4 x.length q0) := by
  refine Ev.eq (fun k => laws_markEventS_eq k x q0) (Ev.loop (f := fun k m => laws_markEventS.l0 k m q0 0 x) (loop_mark (t := T49) (F := fun q i s k m => laws_markEventS.l0 k m q i s) (fun q : Int => ((q, (q + 1, (q + 2, (q + 3, ())))) : DT49)) 4 17592186044416 (by omega) (fun q s hs => E2.eq (fun k m => laws_markEventS.l0_eq k m _ _ _) (E2.neg (by omega) E2.ret)) (fun i q s hi hs hq hB v e => ?_) q0 h0 (by omega)))
  · refine E2.eq (fun k m => laws_markEventS.l0_eq k m _ _ _) ?_
    have w1 : IntKind.wrap .i64 (q + 1) = q + 1 := (wrapI (by omega) (by omega)).trans (by omega)
    have w2 : IntKind.wrap .i64 (q + 1 + 1) = q + 2 := (wrapI (by omega) (by omega)).trans (by omega)
    have w3 : IntKind.wrap .i64 (q + 2 + 1) = q + 3 := (wrapI (by omega) (by omega)).trans (by omega)
    have w4 : IntKind.wrap .i64 (q + 3 + 1) = q + 4 := (wrapI (by omega) (by omega)).trans (by omega)
    refine E2.pos (by first | omega | ((repeat rw [setAt_len]); omega)) ?_
    refine E2.pos (by first | omega | ((repeat rw [setAt_len]); omega)) ?_
    refine E2.pos (by first | omega | ((repeat rw [setAt_len]); omega)) ?_
    refine E2.pos (by first | omega | ((repeat rw [setAt_len]); omega)) ?_
    refine E2.pos (by first | omega | ((repeat rw [setAt_len]); omega)) ?_
    refine E2.pos (by first | omega | ((repeat rw [setAt_len]); omega)) ?_
    refine E2.pos (by first | omega | ((repeat rw [setAt_len]); omega)) ?_
    refine E2.pos (by first | omega | ((repeat rw [setAt_len]); omega)) ?_
    refine E2.pos (by first | omega | ((repeat rw [setAt_len]); omega)) ?_
    simp only [w1, w2, w3, w4, wrapS (show i < 9223372036854775807 by omega), setAt_comp (show i < s.length by omega)]
    simp only [setAt_eq]
    exact e
theorem laws_markTempoS_ev (x : (List DT23)) (h : x.length ≤ 4194304) (q0 : Int) (h0 : 0 ≤ q0) (h1 : q0 ≤ 8796093022208) : Ev (fun k => laws_markTempoS k x q0) (q0 + 2 * x.length, marks (fun q : Int => ((q, (q + 1, ())) : DT23)) 2 x.length q0) := by
  refine Ev.eq (fun k => laws_markTempoS_eq k x q0) (Ev.loop (f := fun k m => laws_markTempoS.l0 k m q0 0 x) (loop_mark (t := T23) (F := fun q i s k m => laws_markTempoS.l0 k m q i s) (fun q : Int => ((q, (q + 1, ())) : DT23)) 2 17592186044416 (by omega) (fun q s hs => E2.eq (fun k m => laws_markTempoS.l0_eq k m _ _ _) (E2.neg (by omega) E2.ret)) (fun i q s hi hs hq hB v e => ?_) q0 h0 (by omega)))
  · refine E2.eq (fun k m => laws_markTempoS.l0_eq k m _ _ _) ?_
    have w1 : IntKind.wrap .i64 (q + 1) = q + 1 := (wrapI (by omega) (by omega)).trans (by omega)
    have w2 : IntKind.wrap .i64 (q + 1 + 1) = q + 2 := (wrapI (by omega) (by omega)).trans (by omega)
    refine E2.pos (by first | omega | ((repeat rw [setAt_len]); omega)) ?_
    refine E2.pos (by first | omega | ((repeat rw [setAt_len]); omega)) ?_
    refine E2.pos (by first | omega | ((repeat rw [setAt_len]); omega)) ?_
    refine E2.pos (by first | omega | ((repeat rw [setAt_len]); omega)) ?_
    refine E2.pos (by first | omega | ((repeat rw [setAt_len]); omega)) ?_
    simp only [w1, w2, wrapS (show i < 9223372036854775807 by omega), setAt_comp (show i < s.length by omega)]
    simp only [setAt_eq]
    exact e
theorem laws_markIntS_ev (x : (List Int)) (h : x.length ≤ 4194304) (q0 : Int) (h0 : 0 ≤ q0) (h1 : q0 ≤ 8796093022208) : Ev (fun k => laws_markIntS k x q0) (q0 + 1 * x.length, marks (fun q : Int => (q : Int)) 1 x.length q0) := by
  refine Ev.eq (fun k => laws_markIntS_eq k x q0) (Ev.loop (f := fun k m => laws_markIntS.l0 k m q0 0 x) (loop_mark (t := (.int .i64)) (F := fun q i s k m => laws_markIntS.l0 k m q i s) (fun q : Int => (q : Int)) 1 17592186044416 (by omega) (fun q s hs => E2.eq (fun k m => laws_markIntS.l0_eq k m _ _ _) (E2.neg (by omega) E2.ret)) (fun i q s hi hs hq hB v e => ?_) q0 h0 (by omega)))
  · refine E2.eq (fun k m => laws_markIntS.l0_eq k m _ _ _) ?_
    have w1 : IntKind.wrap .i64 (q + 1) = q + 1 := (wrapI (by omega) (by omega)).trans (by omega)
    refine E2.pos (by first | omega | ((repeat rw [setAt_len]); omega)) ?_
    refine E2.pos (by first | omega | ((repeat rw [setAt_len]); omega)) ?_
    refine E2.pos (by first | omega | ((repeat rw [setAt_len]); omega)) ?_
    simp only [w1, wrapS (show i < 9223372036854775807 by omega)]
    exact e
def laws_markPlayerS_mk : Int → DT61 → DT61 := fun q e => (q, (q + 1, (q + 2, (marks (fun q : Int => (q : Int)) 1 e.2.2.2.1.length (q + 3), ()))))
def laws_markPlayerS_cnt : DT61 → Int := fun e => (3 : Int) + 1 * ((e.2.2.2.1.length : Nat) : Int)
theorem laws_markPlayerS_sum (x : (List DT61)) (h : Bk (.dlist T61) x) : sumG laws_markPlayerS_cnt x ≤ 1099514773504 := by
  have h1 : sumG laws_markPlayerS_cnt x ≤ 1048579 * (x.length : Int) := sumG_le fun e he => by
    have hb := h.2 e he
    have l0 : e.2.2.2.1.length ≤ 1048576 := hb.2.2.2.1.1
    show (3 : Int) + 1 * ((e.2.2.2.1.length : Nat) : Int) ≤ _
    omega
  have h2 : x.length ≤ 1048576 := h.1
  have h3 : (1048579 : Int) * (x.length : Int) ≤ 1048579 * 1048576 := Int.mul_le_mul_of_nonneg_left (by omega) (by omega)
  omega
theorem laws_markPlayerS_ev (x : (List DT61)) (h : Bk (.dlist T61) x) (q0 : Int) (h0 : 0 ≤ q0) (h1 : q0 ≤ 2199023255552) : Ev (fun k => laws_markPlayerS k x q0) (q0 + sumG laws_markPlayerS_cnt x, marksG laws_markPlayerS_mk laws_markPlayerS_cnt x q0) := by
  have hs := laws_markPlayerS_sum x h
  have h : Bk (.list T61) x := h
  refine Ev.eq (fun k => laws_markPlayerS_eq k x q0) (Ev.loop (f := fun k m => laws_markPlayerS.l0 k m q0 0 x) (loop_markG (t := T61) (F := fun q i s k m => laws_markPlayerS.l0 k m q i s) laws_markPlayerS_mk laws_markPlayerS_cnt 4398046511104 (fun e _ => by show 0 ≤ (3 : Int) + 1 * ((e.2.2.2.1.length : Nat) : Int); omega) (fun q s hs => E2.eq (fun k m => laws_markPlayerS.l0_eq k m _ _ _) (E2.neg (by omega) E2.ret)) (fun i q s hi hs hrd hq hB v ee => ?_) q0 h0 (by omega)))
  · have hL : x.length ≤ 1048576 := h.1
    have l0 : (rd T61 x (i : Int)).2.2.2.1.length ≤ 1048576 := (bk_rd h hi).2.2.2.1.1
    have hB : q + ((3 : Int) + 1 * (((rd T61 x (i : Int)).2.2.2.1.length : Nat) : Int)) ≤ 4398046511104 := hB
    have i0 : (0 : Int) ≤ (i : Int) := by omega
    have i1 : (i : Int) < ((s.length : Nat) : Int) := by omega
    refine E2.eq (fun k m => laws_markPlayerS.l0_eq k m _ _ _) ?_
    have b0 : 0 ≤ q := hq
    have c0 : q ≤ 8796093022208 := by omega
    have w1 : IntKind.wrap .i64 (q + 1) = q + 1 := wrapK0 b0 c0
    have w2 : IntKind.wrap .i64 (q + 1 + 1) = q + 2 := wrapK b0 c0 1 2 (by decide) rfl
    have w3 : IntKind.wrap .i64 (q + 2 + 1) = q + 3 := wrapK b0 c0 2 3 (by decide) rfl
    try simp only [setAt_comp (show i < s.length by omega), rd_setAt (show i < s.length by omega), setAt_len, hrd, w1, w2, w3]
    refine E2.pos (by first | exact i0 | exact i1 | (rw [setAt_len]; exact i1)) ?_
    refine E2.pos (by first | exact i0 | exact i1 | (rw [setAt_len]; exact i1)) ?_
    refine E2.pos (by first | exact i0 | exact i1 | (rw [setAt_len]; exact i1)) ?_
    refine E2.pos (by first | exact i0 | exact i1 | (rw [setAt_len]; exact i1)) ?_
    refine E2.pos (by first | exact i0 | exact i1 | (rw [setAt_len]; exact i1)) ?_
    refine E2.pos (by first | exact i0 | exact i1 | (rw [setAt_len]; exact i1)) ?_
    refine E2.pos (by first | exact i0 | exact i1 | (rw [setAt_len]; exact i1)) ?_
    refine E2.pos (by first | exact i0 | exact i1 | (rw [setAt_len]; exact i1)) ?_
    refine E2.pos (by first | exact i0 | exact i1 | (rw [setAt_len]; exact i1)) ?_
    refine E2.bind (laws_markIntS_ev (rd T61 x (i : Int)).2.2.2.1 (Nat.le_trans l0 (by decide)) (q + 3) (by clear w1 w2 w3; omega) (by clear w1 w2 w3; omega)) ?_
    have b1 : 0 ≤ (q + 3 + 1 * (((rd T61 x (i : Int)).2.2.2.1.length : Nat) : Int)) := by clear w1 w2 w3; omega
    have c1 : (q + 3 + 1 * (((rd T61 x (i : Int)).2.2.2.1.length : Nat) : Int)) ≤ 8796093022208 := by clear w1 w2 w3; omega
    try simp only [setAt_comp (show i < s.length by omega), rd_setAt (show i < s.length by omega), setAt_len, hrd, w1, w2, w3]
    simp only [wrapS (show i < 9223372036854775807 by omega), setAt_eq, hrd]
    refine (congrArg (fun z => E2 z v) (funext fun k => funext fun m => ?_)).mp ee
    show laws_markPlayerS.l0 k m (q + ((3 : Int) + 1 * (((rd T61 x (i : Int)).2.2.2.1.length : Nat) : Int))) _ (s.set i ((q, (q + 1, (q + 2, (marks (fun q : Int => (q : Int)) 1 (rd T61 x (i : Int)).2.2.2.1.length (q + 3), ())))))) = _
    congr 1
    clear w1 w2 w3
    omega
theorem laws_markMarkS_ev (x : (List DT131)) (h : x.length ≤ 4194304) (q0 : Int) (h0 : 0 ≤ q0) (h1 : q0 ≤ 8796093022208) : Ev (fun k => laws_markMarkS k x q0) (q0 + 5 * x.length, marks (fun q : Int => ((q, (q + 1, (q + 2, (q + 3, (q + 4, ()))))) : DT131)) 5 x.length q0) := by
  refine Ev.eq (fun k => laws_markMarkS_eq k x q0) (Ev.loop (f := fun k m => laws_markMarkS.l0 k m q0 0 x) (loop_mark (t := T131) (F := fun q i s k m => laws_markMarkS.l0 k m q i s) (fun q : Int => ((q, (q + 1, (q + 2, (q + 3, (q + 4, ()))))) : DT131)) 5 17592186044416 (by omega) (fun q s hs => E2.eq (fun k m => laws_markMarkS.l0_eq k m _ _ _) (E2.neg (by omega) E2.ret)) (fun i q s hi hs hq hB v e => ?_) q0 h0 (by omega)))
  · refine E2.eq (fun k m => laws_markMarkS.l0_eq k m _ _ _) ?_
    have w1 : IntKind.wrap .i64 (q + 1) = q + 1 := (wrapI (by omega) (by omega)).trans (by omega)
    have w2 : IntKind.wrap .i64 (q + 1 + 1) = q + 2 := (wrapI (by omega) (by omega)).trans (by omega)
    have w3 : IntKind.wrap .i64 (q + 2 + 1) = q + 3 := (wrapI (by omega) (by omega)).trans (by omega)
    have w4 : IntKind.wrap .i64 (q + 3 + 1) = q + 4 := (wrapI (by omega) (by omega)).trans (by omega)
    have w5 : IntKind.wrap .i64 (q + 4 + 1) = q + 5 := (wrapI (by omega) (by omega)).trans (by omega)
    refine E2.pos (by first | omega | ((repeat rw [setAt_len]); omega)) ?_
    refine E2.pos (by first | omega | ((repeat rw [setAt_len]); omega)) ?_
    refine E2.pos (by first | omega | ((repeat rw [setAt_len]); omega)) ?_
    refine E2.pos (by first | omega | ((repeat rw [setAt_len]); omega)) ?_
    refine E2.pos (by first | omega | ((repeat rw [setAt_len]); omega)) ?_
    refine E2.pos (by first | omega | ((repeat rw [setAt_len]); omega)) ?_
    refine E2.pos (by first | omega | ((repeat rw [setAt_len]); omega)) ?_
    refine E2.pos (by first | omega | ((repeat rw [setAt_len]); omega)) ?_
    refine E2.pos (by first | omega | ((repeat rw [setAt_len]); omega)) ?_
    refine E2.pos (by first | omega | ((repeat rw [setAt_len]); omega)) ?_
    refine E2.pos (by first | omega | ((repeat rw [setAt_len]); omega)) ?_
    simp only [w1, w2, w3, w4, w5, wrapS (show i < 9223372036854775807 by omega), setAt_comp (show i < s.length by omega)]
    simp only [setAt_eq]
    exact e
theorem laws_markLetterS_ev (x : (List DT23)) (h : x.length ≤ 4194304) (q0 : Int) (h0 : 0 ≤ q0) (h1 : q0 ≤ 8796093022208) : Ev (fun k => laws_markLetterS k x q0) (q0 + 2 * x.length, marks (fun q : Int => ((q, (q + 1, ())) : DT23)) 2 x.length q0) := by
  refine Ev.eq (fun k => laws_markLetterS_eq k x q0) (Ev.loop (f := fun k m => laws_markLetterS.l0 k m q0 0 x) (loop_mark (t := T23) (F := fun q i s k m => laws_markLetterS.l0 k m q i s) (fun q : Int => ((q, (q + 1, ())) : DT23)) 2 17592186044416 (by omega) (fun q s hs => E2.eq (fun k m => laws_markLetterS.l0_eq k m _ _ _) (E2.neg (by omega) E2.ret)) (fun i q s hi hs hq hB v e => ?_) q0 h0 (by omega)))
  · refine E2.eq (fun k m => laws_markLetterS.l0_eq k m _ _ _) ?_
    have w1 : IntKind.wrap .i64 (q + 1) = q + 1 := (wrapI (by omega) (by omega)).trans (by omega)
    have w2 : IntKind.wrap .i64 (q + 1 + 1) = q + 2 := (wrapI (by omega) (by omega)).trans (by omega)
    refine E2.pos (by first | omega | ((repeat rw [setAt_len]); omega)) ?_
    refine E2.pos (by first | omega | ((repeat rw [setAt_len]); omega)) ?_
    refine E2.pos (by first | omega | ((repeat rw [setAt_len]); omega)) ?_
    refine E2.pos (by first | omega | ((repeat rw [setAt_len]); omega)) ?_
    refine E2.pos (by first | omega | ((repeat rw [setAt_len]); omega)) ?_
    simp only [w1, w2, wrapS (show i < 9223372036854775807 by omega), setAt_comp (show i < s.length by omega)]
    simp only [setAt_eq]
    exact e
theorem laws_heldEventS_ev (x : (List DT49)) (h : x.length ≤ 4194304) (q0 : Int) (h0 : 0 ≤ q0) (h1 : q0 ≤ 8796093022208) (hx : x = marks (fun q : Int => ((q, (q + 1, (q + 2, (q + 3, ())))) : DT49)) 4 x.length q0) : Ev (fun k => laws_heldEventS k x q0) (q0 + 4 * x.length) := by
  refine Ev.eq (fun k => laws_heldEventS_eq k x q0) (Ev.loop (f := fun k m => laws_heldEventS.l0 k m x q0 0) (loop_held (t := T49) (F := fun q i k m => laws_heldEventS.l0 k m x q i) (fun q : Int => ((q, (q + 1, (q + 2, (q + 3, ())))) : DT49)) 4 17592186044416 (by omega) (fun q => E2.eq (fun k m => laws_heldEventS.l0_eq k m _ _ _) (E2.neg (by omega) E2.ret)) (fun i q hi hq hB hr v e => ?_) q0 h0 (by omega) hx))
  refine E2.eq (fun k m => laws_heldEventS.l0_eq k m _ _ _) ?_
  have w1 : IntKind.wrap .i64 (q + 1) = q + 1 := (wrapI (by omega) (by omega)).trans (by omega)
  have w2 : IntKind.wrap .i64 (q + 1 + 1) = q + 2 := (wrapI (by omega) (by omega)).trans (by omega)
  have w3 : IntKind.wrap .i64 (q + 2 + 1) = q + 3 := (wrapI (by omega) (by omega)).trans (by omega)
  have w4 : IntKind.wrap .i64 (q + 3 + 1) = q + 4 := (wrapI (by omega) (by omega)).trans (by omega)
  simp only [w1, w2, w3, w4, wrapS (show i < 9223372036854775807 by omega), hr]
  refine E2.pos (by omega) ?_
  refine E2.pos (by omega) ?_
  refine E2.pos (by omega) ?_
  refine E2.neg (by simp) ?_
  refine E2.pos (by omega) ?_
  refine E2.pos (by omega) ?_
  refine E2.neg (by simp) ?_
  refine E2.pos (by omega) ?_
  refine E2.pos (by omega) ?_
  refine E2.neg (by simp) ?_
  refine E2.pos (by omega) ?_
  refine E2.pos (by omega) ?_
  refine E2.neg (by simp) ?_
  exact e
theorem laws_heldTempoS_ev (x : (List DT23)) (h : x.length ≤ 4194304) (q0 : Int) (h0 : 0 ≤ q0) (h1 : q0 ≤ 8796093022208) (hx : x = marks (fun q : Int => ((q, (q + 1, ())) : DT23)) 2 x.length q0) : Ev (fun k => laws_heldTempoS k x q0) (q0 + 2 * x.length) := by
  refine Ev.eq (fun k => laws_heldTempoS_eq k x q0) (Ev.loop (f := fun k m => laws_heldTempoS.l0 k m x q0 0) (loop_held (t := T23) (F := fun q i k m => laws_heldTempoS.l0 k m x q i) (fun q : Int => ((q, (q + 1, ())) : DT23)) 2 17592186044416 (by omega) (fun q => E2.eq (fun k m => laws_heldTempoS.l0_eq k m _ _ _) (E2.neg (by omega) E2.ret)) (fun i q hi hq hB hr v e => ?_) q0 h0 (by omega) hx))
  refine E2.eq (fun k m => laws_heldTempoS.l0_eq k m _ _ _) ?_
  have w1 : IntKind.wrap .i64 (q + 1) = q + 1 := (wrapI (by omega) (by omega)).trans (by omega)
  have w2 : IntKind.wrap .i64 (q + 1 + 1) = q + 2 := (wrapI (by omega) (by omega)).trans (by omega)
  simp only [w1, w2, wrapS (show i < 9223372036854775807 by omega), hr]
  refine E2.pos (by omega) ?_
  refine E2.pos (by omega) ?_
  refine E2.pos (by omega) ?_
  refine E2.neg (by simp) ?_
  refine E2.pos (by omega) ?_
  refine E2.pos (by omega) ?_
  refine E2.neg (by simp) ?_
  exact e
theorem laws_heldIntS_ev (x : (List Int)) (h : x.length ≤ 4194304) (q0 : Int) (h0 : 0 ≤ q0) (h1 : q0 ≤ 8796093022208) (hx : x = marks (fun q : Int => (q : Int)) 1 x.length q0) : Ev (fun k => laws_heldIntS k x q0) (q0 + 1 * x.length) := by
  refine Ev.eq (fun k => laws_heldIntS_eq k x q0) (Ev.loop (f := fun k m => laws_heldIntS.l0 k m x q0 0) (loop_held (t := (.int .i64)) (F := fun q i k m => laws_heldIntS.l0 k m x q i) (fun q : Int => (q : Int)) 1 17592186044416 (by omega) (fun q => E2.eq (fun k m => laws_heldIntS.l0_eq k m _ _ _) (E2.neg (by omega) E2.ret)) (fun i q hi hq hB hr v e => ?_) q0 h0 (by omega) hx))
  refine E2.eq (fun k m => laws_heldIntS.l0_eq k m _ _ _) ?_
  have w1 : IntKind.wrap .i64 (q + 1) = q + 1 := (wrapI (by omega) (by omega)).trans (by omega)
  simp only [w1, wrapS (show i < 9223372036854775807 by omega), hr]
  refine E2.pos (by omega) ?_
  refine E2.pos (by omega) ?_
  refine E2.pos (by omega) ?_
  refine E2.neg (by simp) ?_
  exact e
theorem laws_heldPlayerS_ev (x : (List DT61)) (h : Bk (.dlist T61) x) (q0 : Int) (h0 : 0 ≤ q0) (h1 : q0 ≤ 2199023255552) : Ev (fun k => laws_heldPlayerS k (marksG laws_markPlayerS_mk laws_markPlayerS_cnt x q0) q0) (q0 + sumG laws_markPlayerS_cnt x) := by
  have hs := laws_markPlayerS_sum x h
  have h : Bk (.list T61) x := h
  have hll : (marksG laws_markPlayerS_mk laws_markPlayerS_cnt x q0).length = x.length := marksG_len _ _ _ _
  generalize hy : marksG laws_markPlayerS_mk laws_markPlayerS_cnt x q0 = y at hll
  refine Ev.eq (fun k => laws_heldPlayerS_eq k y q0) (Ev.loop (f := fun k m => laws_heldPlayerS.l0 k m y q0 0) (loop_heldG (t := T61) (x := x) (F := fun q i k m => laws_heldPlayerS.l0 k m y q i) laws_markPlayerS_mk laws_markPlayerS_cnt 4398046511104 (fun e _ => by show 0 ≤ (3 : Int) + 1 * ((e.2.2.2.1.length : Nat) : Int); omega) hll (fun q => E2.eq (fun k m => laws_heldPlayerS.l0_eq k m _ _ _) (E2.neg (by omega) E2.ret)) (fun i q hi hq hB hr v ee => ?_) q0 h0 (by omega) hy.symm))
  have hL : x.length ≤ 1048576 := h.1
  have l0 : (rd T61 x (i : Int)).2.2.2.1.length ≤ 1048576 := (bk_rd h hi).2.2.2.1.1
  have hB : q + ((3 : Int) + 1 * (((rd T61 x (i : Int)).2.2.2.1.length : Nat) : Int)) ≤ 4398046511104 := hB
  have hr : rd T61 y (i : Int) = ((q, (q + 1, (q + 2, (marks (fun q : Int => (q : Int)) 1 (rd T61 x (i : Int)).2.2.2.1.length (q + 3), ()))))) := hr
  have i0 : (0 : Int) ≤ (i : Int) := by omega
  have i1 : (i : Int) < ((y.length : Nat) : Int) := by omega
  refine E2.eq (fun k m => laws_heldPlayerS.l0_eq k m _ _ _) ?_
  have b0 : 0 ≤ q := hq
  have c0 : q ≤ 8796093022208 := by omega
  have w1 : IntKind.wrap .i64 (q + 1) = q + 1 := wrapK0 b0 c0
  have w2 : IntKind.wrap .i64 (q + 1 + 1) = q + 2 := wrapK b0 c0 1 2 (by decide) rfl
  have w3 : IntKind.wrap .i64 (q + 2 + 1) = q + 3 := wrapK b0 c0 2 3 (by decide) rfl
  simp only [hr, w1, w2, w3]
  refine E2.pos (by first | exact i0 | exact i1) ?_
  refine E2.pos (by first | exact i0 | exact i1) ?_
  refine E2.pos (by first | exact i0 | exact i1) ?_
  refine E2.neg (by simp) ?_
  refine E2.pos (by first | exact i0 | exact i1) ?_
  refine E2.pos (by first | exact i0 | exact i1) ?_
  refine E2.neg (by simp) ?_
  refine E2.pos (by first | exact i0 | exact i1) ?_
  refine E2.pos (by first | exact i0 | exact i1) ?_
  refine E2.neg (by simp) ?_
  refine E2.pos (by first | exact i0 | exact i1) ?_
  refine E2.pos (by first | exact i0 | exact i1) ?_
  refine E2.bind ((laws_heldIntS_ev (marks (fun q : Int => (q : Int)) 1 (rd T61 x (i : Int)).2.2.2.1.length (q + 3)) (by rw [marks_len]; exact Nat.le_trans l0 (by decide)) (q + 3) (by clear w1 w2 w3; omega) (by clear w1 w2 w3; omega) (by rw [marks_len])).val (by rw [marks_len])) ?_
  have b1 : 0 ≤ (q + 3 + 1 * (((rd T61 x (i : Int)).2.2.2.1.length : Nat) : Int)) := by clear w1 w2 w3; omega
  have c1 : (q + 3 + 1 * (((rd T61 x (i : Int)).2.2.2.1.length : Nat) : Int)) ≤ 8796093022208 := by clear w1 w2 w3; omega
  try simp only [w1, w2, w3]
  refine E2.neg (by clear w1 w2 w3; omega) ?_
  simp only [wrapS (show i < 9223372036854775807 by omega)]
  refine (congrArg (fun z => E2 z v) (funext fun k => funext fun m => ?_)).mp ee
  show laws_heldPlayerS.l0 k m y (q + ((3 : Int) + 1 * (((rd T61 x (i : Int)).2.2.2.1.length : Nat) : Int))) _ = _
  congr 1
  clear w1 w2 w3
  omega
theorem laws_heldMarkS_ev (x : (List DT131)) (h : x.length ≤ 4194304) (q0 : Int) (h0 : 0 ≤ q0) (h1 : q0 ≤ 8796093022208) (hx : x = marks (fun q : Int => ((q, (q + 1, (q + 2, (q + 3, (q + 4, ()))))) : DT131)) 5 x.length q0) : Ev (fun k => laws_heldMarkS k x q0) (q0 + 5 * x.length) := by
  refine Ev.eq (fun k => laws_heldMarkS_eq k x q0) (Ev.loop (f := fun k m => laws_heldMarkS.l0 k m x q0 0) (loop_held (t := T131) (F := fun q i k m => laws_heldMarkS.l0 k m x q i) (fun q : Int => ((q, (q + 1, (q + 2, (q + 3, (q + 4, ()))))) : DT131)) 5 17592186044416 (by omega) (fun q => E2.eq (fun k m => laws_heldMarkS.l0_eq k m _ _ _) (E2.neg (by omega) E2.ret)) (fun i q hi hq hB hr v e => ?_) q0 h0 (by omega) hx))
  refine E2.eq (fun k m => laws_heldMarkS.l0_eq k m _ _ _) ?_
  have w1 : IntKind.wrap .i64 (q + 1) = q + 1 := (wrapI (by omega) (by omega)).trans (by omega)
  have w2 : IntKind.wrap .i64 (q + 1 + 1) = q + 2 := (wrapI (by omega) (by omega)).trans (by omega)
  have w3 : IntKind.wrap .i64 (q + 2 + 1) = q + 3 := (wrapI (by omega) (by omega)).trans (by omega)
  have w4 : IntKind.wrap .i64 (q + 3 + 1) = q + 4 := (wrapI (by omega) (by omega)).trans (by omega)
  have w5 : IntKind.wrap .i64 (q + 4 + 1) = q + 5 := (wrapI (by omega) (by omega)).trans (by omega)
  simp only [w1, w2, w3, w4, w5, wrapS (show i < 9223372036854775807 by omega), hr]
  refine E2.pos (by omega) ?_
  refine E2.pos (by omega) ?_
  refine E2.pos (by omega) ?_
  refine E2.neg (by simp) ?_
  refine E2.pos (by omega) ?_
  refine E2.pos (by omega) ?_
  refine E2.neg (by simp) ?_
  refine E2.pos (by omega) ?_
  refine E2.pos (by omega) ?_
  refine E2.neg (by simp) ?_
  refine E2.pos (by omega) ?_
  refine E2.pos (by omega) ?_
  refine E2.neg (by simp) ?_
  refine E2.pos (by omega) ?_
  refine E2.pos (by omega) ?_
  refine E2.neg (by simp) ?_
  exact e
theorem laws_heldLetterS_ev (x : (List DT23)) (h : x.length ≤ 4194304) (q0 : Int) (h0 : 0 ≤ q0) (h1 : q0 ≤ 8796093022208) (hx : x = marks (fun q : Int => ((q, (q + 1, ())) : DT23)) 2 x.length q0) : Ev (fun k => laws_heldLetterS k x q0) (q0 + 2 * x.length) := by
  refine Ev.eq (fun k => laws_heldLetterS_eq k x q0) (Ev.loop (f := fun k m => laws_heldLetterS.l0 k m x q0 0) (loop_held (t := T23) (F := fun q i k m => laws_heldLetterS.l0 k m x q i) (fun q : Int => ((q, (q + 1, ())) : DT23)) 2 17592186044416 (by omega) (fun q => E2.eq (fun k m => laws_heldLetterS.l0_eq k m _ _ _) (E2.neg (by omega) E2.ret)) (fun i q hi hq hB hr v e => ?_) q0 h0 (by omega) hx))
  refine E2.eq (fun k m => laws_heldLetterS.l0_eq k m _ _ _) ?_
  have w1 : IntKind.wrap .i64 (q + 1) = q + 1 := (wrapI (by omega) (by omega)).trans (by omega)
  have w2 : IntKind.wrap .i64 (q + 1 + 1) = q + 2 := (wrapI (by omega) (by omega)).trans (by omega)
  simp only [w1, w2, wrapS (show i < 9223372036854775807 by omega), hr]
  refine E2.pos (by omega) ?_
  refine E2.pos (by omega) ?_
  refine E2.pos (by omega) ?_
  refine E2.neg (by simp) ?_
  refine E2.pos (by omega) ?_
  refine E2.pos (by omega) ?_
  refine E2.neg (by simp) ?_
  exact e
end Go.QFnExactStepSeat
