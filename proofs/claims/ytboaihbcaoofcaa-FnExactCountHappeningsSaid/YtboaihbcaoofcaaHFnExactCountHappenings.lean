/- The law's helpers. No condition. -/
import Derived.Test.YtboaihbcaoofcaaQFnExactCountHappenings
import Derived.Test.YtboaihbcaoofcaaPur
set_option linter.unusedVariables false
set_option linter.unusedSimpArgs false
open Go Go.Flat
namespace Go.QFnExactCountHappenings
theorem laws_szIntS_ok (x : (List Int)) (w : Wd (.list (.int .i64)) x) (n : Int) (hn : 0 ≤ n) (hm : n ≤ 1048576) : ∃ r, Ev (fun k => laws_szIntS k x n) r ∧ (r < 0 ∨ 0 ≤ r ∧ r ≤ n ∧ Bk (.list (.int .i64)) x) := by
  have hl : x.length ≤ 9223372036854775807 := w.1
  by_cases c : n - (x.length : Int) < 0
  · exact ⟨-1, Ev.eq (fun k => laws_szIntS_eq k x n) (Ev.pos (by rw [wrapI (by omega) (by omega)]; omega) Ev.ret), .inl (by omega)⟩
  · exact ⟨n - x.length, Ev.eq (fun k => laws_szIntS_eq k x n) (Ev.neg (by rw [wrapI (by omega) (by omega)]; omega) (Ev.ret.val (wrapI (by omega) (by omega)))), .inr ⟨by omega, by omega, bk_list (by omega) fun i hi => bk_flat _ rfl⟩⟩
theorem laws_szPlayer_ok (x : DT78) (w : Wd T78 x) (n : Int) (hn : 0 ≤ n) (hm : n ≤ 1048576) : ∃ r, Ev (fun k => laws_szPlayer k x n) r ∧ (r < 0 ∨ 0 ≤ r ∧ r ≤ n ∧ Bk T78 x) := by
  obtain ⟨r0, e0, h0⟩ := laws_szIntS_ok x.2.2.2.1 w.2.2.2.1 n (by omega) (by omega)
  by_cases c0 : r0 < 0
  · exact ⟨-1, Ev.eq (fun k => laws_szPlayer_eq k x n) (Ev.bind e0 (Ev.pos c0 Ev.ret)), .inl (by omega)⟩
  replace h0 := h0.resolve_left c0
  exact ⟨r0, Ev.eq (fun k => laws_szPlayer_eq k x n) (Ev.bind e0 (Ev.neg c0 (Ev.ret))), .inr ⟨by omega, by omega, bk_flat _ rfl, bk_flat _ rfl, bk_flat _ rfl, h0.2.2, trivial⟩⟩
theorem laws_szHappening_ok (x : DT82) (w : Wd T82 x) (n : Int) (hn : 0 ≤ n) (hm : n ≤ 1048576) : ∃ r, Ev (fun k => laws_szHappening k x n) r ∧ (r < 0 ∨ 0 ≤ r ∧ r ≤ n ∧ Bk T82 x) := by
  obtain ⟨r0, e0, h0⟩ := laws_szPlayer_ok x.2.2.2.2.1 w.2.2.2.2.1 n (by omega) (by omega)
  by_cases c0 : r0 < 0
  · exact ⟨-1, Ev.eq (fun k => laws_szHappening_eq k x n) (Ev.bind e0 (Ev.pos c0 Ev.ret)), .inl (by omega)⟩
  replace h0 := h0.resolve_left c0
  exact ⟨r0, Ev.eq (fun k => laws_szHappening_eq k x n) (Ev.bind e0 (Ev.neg c0 (Ev.ret))), .inr ⟨by omega, by omega, bk_flat _ rfl, bk_flat _ rfl, bk_flat _ rfl, bk_flat _ rfl, h0.2.2, bk_flat _ rfl, trivial⟩⟩
theorem laws_szHappeningS_ok (x : (List DT82)) (w : Wd (.list T82) x) (n : Int) (hn : 0 ≤ n) (hm : n ≤ 1048576) : ∃ r, Ev (fun k => laws_szHappeningS k x n) r ∧ (r < 0 ∨ 0 ≤ r ∧ r ≤ n ∧ Bk (.list T82) x) := by
  have hl : x.length ≤ 9223372036854775807 := w.1
  by_cases c : n - (x.length : Int) < 0
  · exact ⟨-1, Ev.eq (fun k => laws_szHappeningS_eq k x n) (Ev.pos (by rw [wrapI (by omega) (by omega)]; omega) Ev.ret), .inl (by omega)⟩
  · obtain ⟨r, e, h⟩ := loop_sz (t := T82) (x := x) (F := fun i n k m => laws_szHappeningS.l0 k m x n i) (fun n => E2.eq (fun k m => laws_szHappeningS.l0_eq k m x n _) (E2.neg (by omega) E2.ret)) (fun i hi n hn hm => by
      obtain ⟨r0, e0, h0⟩ := laws_szHappening_ok (rd T82 x (i : Int)) (wd_rd w hi) n hn hm
      by_cases c : r0 < 0
      · exact .inl ⟨-1, by omega, E2.eq (fun k m => laws_szHappeningS.l0_eq k m x n _) (E2.pos (by omega) (E2.pos (by omega) (E2.pos (by omega) (E2.bind e0 (E2.pos c E2.ret)))))⟩
      · have h0 := h0.resolve_left c
        refine .inr ⟨r0, h0.1, h0.2.1, h0.2.2, fun v e => E2.eq (fun k m => laws_szHappeningS.l0_eq k m x n _) (E2.pos (by omega) (E2.pos (by omega) (E2.pos (by omega) (E2.bind e0 (E2.neg c ?_)))))⟩
        rw [wrapS (by omega)]; exact e) (n - x.length) (by omega) (by omega)
    refine ⟨r, Ev.eq (fun k => laws_szHappeningS_eq k x n) (Ev.neg (by rw [wrapI (by omega) (by omega)]; omega) (Ev.loop (f := fun k m => laws_szHappeningS.l0 k m x (IntKind.wrap .i64 (n - ((List.length x : Nat) : Int))) 0) ?_)), h.imp id fun h => ⟨h.1, by omega, bk_list (by omega) h.2.2⟩⟩
    rw [wrapI (by omega) (by omega)]
    exact e
theorem laws_toEvent_id (x : DT74) (h : Bk T74 x) : Ev (fun k => laws_toEvent k x) x := Ev.eq (fun k => laws_toEvent_eq k x) Ev.ret
theorem laws_toTempo_id (x : DT43) (h : Bk T43 x) : Ev (fun k => laws_toTempo k x) x := Ev.eq (fun k => laws_toTempo_eq k x) Ev.ret
theorem laws_toIntS_id (x : (List Int)) (h : Bk (.list (.int .i64)) x) : Ev (fun k => laws_toIntS k x) x := by
  have hL : x.length ≤ 1048576 := h.1
  refine Ev.eq (fun k => laws_toIntS_eq k x) (Ev.pos (by omega) (Ev.pos (by omega) (Ev.pos (by omega) (Ev.loop (f := fun k m => laws_toIntS.l0 k m x 0 (List.replicate (Int.toNat ((List.length x : Nat) : Int)) (Ty.dflt (.int .i64)))) ?_))))
  have key := loop_map (t := (.int .i64)) (u := (.int .i64)) (F := fun i y k m => laws_toIntS.l0 k m x i y) (x := x) (fun a => a) (fun y => E2.eq (fun k m => laws_toIntS.l0_eq k m x _ y) (E2.neg (by omega) E2.ret)) (fun i y hi hy v e => by
    refine E2.eq (fun k m => laws_toIntS.l0_eq k m x _ y) (E2.pos (by omega) (E2.pos (by omega) (E2.pos (by omega) (E2.pos (by omega) (E2.pos (by omega) ?_)))))
    rw [wrapS (by omega), Int.toNat_natCast]; exact e) (List.replicate (Int.toNat ((List.length x : Nat) : Int)) (Ty.dflt (.int .i64))) (by simp)
  exact key.val (by simp)
theorem laws_toPlayer_id (x : DT78) (h : Bk T78 x) : Ev (fun k => laws_toPlayer k x) x := Ev.eq (fun k => laws_toPlayer_eq k x) (Ev.bind (laws_toIntS_id _ h.2.2.2.1) Ev.ret)
theorem laws_toMark_id (x : DT80) (h : Bk T80 x) : Ev (fun k => laws_toMark k x) x := Ev.eq (fun k => laws_toMark_eq k x) Ev.ret
theorem laws_toHappening_id (x : DT82) (h : Bk T82 x) : Ev (fun k => laws_toHappening k x) x := Ev.eq (fun k => laws_toHappening_eq k x) (Ev.bind (laws_toEvent_id _ h.2.2.1) (Ev.bind (laws_toTempo_id _ h.2.2.2.1) (Ev.bind (laws_toPlayer_id _ h.2.2.2.2.1) (Ev.bind (laws_toMark_id _ h.2.2.2.2.2.1) Ev.ret))))
theorem laws_toHappeningS_id (x : (List DT82)) (h : Bk (.list T82) x) : Ev (fun k => laws_toHappeningS k x) x := by
  have hL : x.length ≤ 1048576 := h.1
  refine Ev.eq (fun k => laws_toHappeningS_eq k x) (Ev.pos (by omega) (Ev.pos (by omega) (Ev.pos (by omega) (Ev.loop (f := fun k m => laws_toHappeningS.l0 k m x 0 (List.replicate (Int.toNat ((List.length x : Nat) : Int)) (Ty.dflt T82))) ?_))))
  have key := loop_map (t := T82) (u := T82) (F := fun i y k m => laws_toHappeningS.l0 k m x i y) (x := x) (fun a => a) (fun y => E2.eq (fun k m => laws_toHappeningS.l0_eq k m x _ y) (E2.neg (by omega) E2.ret)) (fun i y hi hy v e => by
    refine E2.eq (fun k m => laws_toHappeningS.l0_eq k m x _ y) (E2.pos (by omega) (E2.pos (by omega) (E2.pos (by omega) (E2.bind (laws_toHappening_id _ (bk_rd h hi)) (E2.pos (by omega) (E2.pos (by omega) ?_))))))
    rw [wrapS (by omega), Int.toNat_natCast]; exact e) (List.replicate (Int.toNat ((List.length x : Nat) : Int)) (Ty.dflt T82)) (by simp)
  exact key.val (by simp)
theorem laws_eqEvent_self (x : DT74) (h : Bk T74 x) : Ev (fun k => laws_eqEvent k x x) true := Ev.eq (fun k => laws_eqEvent_eq k x x) (Ev.neg (by simp) (Ev.neg (by simp) (Ev.neg (by simp) (Ev.neg (by simp) Ev.ret))))
theorem laws_eqTempo_self (x : DT43) (h : Bk T43 x) : Ev (fun k => laws_eqTempo k x x) true := Ev.eq (fun k => laws_eqTempo_eq k x x) (Ev.neg (by simp) (Ev.neg (by simp) Ev.ret))
theorem laws_eqIntS_self (x : (List Int)) (h : Bk (.list (.int .i64)) x) : Ev (fun k => laws_eqIntS k x x) true := by
  have hL : x.length ≤ 1048576 := h.1
  refine Ev.eq (fun k => laws_eqIntS_eq k x x) (Ev.neg (by simp) (Ev.loop (f := fun k m => laws_eqIntS.l0 k m x x 0) ?_))
  obtain ⟨r, er, hr⟩ := loop_all (F := fun i k m => laws_eqIntS.l0 k m x x i) (n := x.length) (fun _ => True) (E2.eq (fun k m => laws_eqIntS.l0_eq k m x x _) (E2.neg (by omega) E2.ret)) (fun i hi _ v e => by
    refine E2.eq (fun k m => laws_eqIntS.l0_eq k m x x _) (E2.pos (by omega) (E2.pos (by omega) (E2.pos (by omega) (E2.pos (by omega) (E2.pos (by omega) (E2.neg (by simp) ?_))))))
    rw [wrapS (by omega)]; exact e) (fun i hi hq => (hq trivial).elim)
  exact er.val (hr.2 fun _ _ => trivial)
theorem laws_eqPlayer_self (x : DT78) (h : Bk T78 x) : Ev (fun k => laws_eqPlayer k x x) true := Ev.eq (fun k => laws_eqPlayer_eq k x x) (Ev.neg (by simp) (Ev.neg (by simp) (Ev.neg (by simp) (Ev.bind (laws_eqIntS_self _ h.2.2.2.1) (Ev.neg (by simp) Ev.ret)))))
theorem laws_eqMark_self (x : DT80) (h : Bk T80 x) : Ev (fun k => laws_eqMark k x x) true := Ev.eq (fun k => laws_eqMark_eq k x x) (Ev.neg (by simp) (Ev.neg (by simp) (Ev.neg (by simp) (Ev.neg (by simp) (Ev.neg (by simp) Ev.ret)))))
theorem laws_eqHappening_self (x : DT82) (h : Bk T82 x) : Ev (fun k => laws_eqHappening k x x) true := Ev.eq (fun k => laws_eqHappening_eq k x x) (Ev.neg (by simp) (Ev.neg (by simp) (Ev.bind (laws_eqEvent_self _ h.2.2.1) (Ev.neg (by simp) (Ev.bind (laws_eqTempo_self _ h.2.2.2.1) (Ev.neg (by simp) (Ev.bind (laws_eqPlayer_self _ h.2.2.2.2.1) (Ev.neg (by simp) (Ev.bind (laws_eqMark_self _ h.2.2.2.2.2.1) (Ev.neg (by simp) Ev.ret))))))))))
theorem laws_eqHappeningS_self (x : (List DT82)) (h : Bk (.list T82) x) : Ev (fun k => laws_eqHappeningS k x x) true := by
  have hL : x.length ≤ 1048576 := h.1
  refine Ev.eq (fun k => laws_eqHappeningS_eq k x x) (Ev.neg (by simp) (Ev.loop (f := fun k m => laws_eqHappeningS.l0 k m x x 0) ?_))
  obtain ⟨r, er, hr⟩ := loop_all (F := fun i k m => laws_eqHappeningS.l0 k m x x i) (n := x.length) (fun _ => True) (E2.eq (fun k m => laws_eqHappeningS.l0_eq k m x x _) (E2.neg (by omega) E2.ret)) (fun i hi _ v e => by
    refine E2.eq (fun k m => laws_eqHappeningS.l0_eq k m x x _) (E2.pos (by omega) (E2.pos (by omega) (E2.pos (by omega) (E2.pos (by omega) (E2.pos (by omega) (E2.bind (laws_eqHappening_self _ (bk_rd h hi)) (E2.neg (by simp) ?_)))))))
    rw [wrapS (by omega)]; exact e) (fun i hi hq => (hq trivial).elim)
  exact er.val (hr.2 fun _ _ => trivial)
end Go.QFnExactCountHappenings
