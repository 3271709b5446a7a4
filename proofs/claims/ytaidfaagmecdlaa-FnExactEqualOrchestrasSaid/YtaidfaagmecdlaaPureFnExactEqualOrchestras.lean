/- What the equations of the law FnExactEqualOrchestras come to. No condition. -/
import Derived.Test.YtaidfaagmecdlaaQFnExactEqualOrchestras
import Derived.Test.YtaidfaagmecdlaaPur
set_option linter.unusedVariables false
set_option linter.unusedSimpArgs false
open Go Go.Flat
namespace Go.QFnExactEqualOrchestras
theorem extT113 {a b : DT113} (h : (a.1 : Int) = b.1 ∧ (a.2.1 : Int) = b.2.1 ∧ (a.2.2.1 : Int) = b.2.2.1 ∧ (a.2.2.2.1 : Int) = b.2.2.2.1) : a = b := by
  obtain ⟨a0, a1, a2, a3, _⟩ := a
  obtain ⟨b0, b1, b2, b3, _⟩ := b
  simp only at h
  obtain ⟨rfl, rfl, rfl, rfl⟩ := h
  rfl
theorem extT65 {a b : DT65} (h : (a.1 : Int) = b.1 ∧ (a.2.1 : Int) = b.2.1) : a = b := by
  obtain ⟨a0, a1, _⟩ := a
  obtain ⟨b0, b1, _⟩ := b
  simp only at h
  obtain ⟨rfl, rfl⟩ := h
  rfl
theorem extT119 {a b : DT119} (h : (a.1 : Int) = b.1 ∧ (a.2.1 : Int) = b.2.1 ∧ (a.2.2.1 : Int) = b.2.2.1 ∧ (a.2.2.2.1 : Int) = b.2.2.2.1 ∧ (a.2.2.2.2.1 : Int) = b.2.2.2.2.1) : a = b := by
  obtain ⟨a0, a1, a2, a3, a4, _⟩ := a
  obtain ⟨b0, b1, b2, b3, b4, _⟩ := b
  simp only at h
  obtain ⟨rfl, rfl, rfl, rfl, rfl⟩ := h
  rfl
theorem laws_szEventS_ok (x : List (Ty.den T113)) (w : x.length ≤ maxLen) (n : Int) (hn : 0 ≤ n) (hm : n ≤ 1048576) : ∃ r, Ev (fun k => laws_szEventS k x n) r ∧ (r < 0 ∨ 0 ≤ r ∧ r ≤ n ∧ x.length ≤ 1048576) := by
  have hl : x.length ≤ 9223372036854775807 := w
  by_cases c : n - (x.length : Int) < 0
  · exact ⟨-1, Ev.eq (fun k => laws_szEventS_eq k x n) (Ev.pos (by rw [wrapI (by omega) (by omega)]; omega) Ev.ret), .inl (by omega)⟩
  · exact ⟨n - x.length, Ev.eq (fun k => laws_szEventS_eq k x n) (Ev.neg (by rw [wrapI (by omega) (by omega)]; omega) (Ev.ret.val (wrapI (by omega) (by omega)))), .inr ⟨by omega, by omega, by omega⟩⟩
theorem laws_szTempoS_ok (x : List (Ty.den T65)) (w : x.length ≤ maxLen) (n : Int) (hn : 0 ≤ n) (hm : n ≤ 1048576) : ∃ r, Ev (fun k => laws_szTempoS k x n) r ∧ (r < 0 ∨ 0 ≤ r ∧ r ≤ n ∧ x.length ≤ 1048576) := by
  have hl : x.length ≤ 9223372036854775807 := w
  by_cases c : n - (x.length : Int) < 0
  · exact ⟨-1, Ev.eq (fun k => laws_szTempoS_eq k x n) (Ev.pos (by rw [wrapI (by omega) (by omega)]; omega) Ev.ret), .inl (by omega)⟩
  · exact ⟨n - x.length, Ev.eq (fun k => laws_szTempoS_eq k x n) (Ev.neg (by rw [wrapI (by omega) (by omega)]; omega) (Ev.ret.val (wrapI (by omega) (by omega)))), .inr ⟨by omega, by omega, by omega⟩⟩
theorem laws_szIntS_ok (x : List (Ty.den (.int .i64))) (w : x.length ≤ maxLen) (n : Int) (hn : 0 ≤ n) (hm : n ≤ 1048576) : ∃ r, Ev (fun k => laws_szIntS k x n) r ∧ (r < 0 ∨ 0 ≤ r ∧ r ≤ n ∧ x.length ≤ 1048576) := by
  have hl : x.length ≤ 9223372036854775807 := w
  by_cases c : n - (x.length : Int) < 0
  · exact ⟨-1, Ev.eq (fun k => laws_szIntS_eq k x n) (Ev.pos (by rw [wrapI (by omega) (by omega)]; omega) Ev.ret), .inl (by omega)⟩
  · exact ⟨n - x.length, Ev.eq (fun k => laws_szIntS_eq k x n) (Ev.neg (by rw [wrapI (by omega) (by omega)]; omega) (Ev.ret.val (wrapI (by omega) (by omega)))), .inr ⟨by omega, by omega, by omega⟩⟩
theorem laws_szMarkS_ok (x : List (Ty.den T119)) (w : x.length ≤ maxLen) (n : Int) (hn : 0 ≤ n) (hm : n ≤ 1048576) : ∃ r, Ev (fun k => laws_szMarkS k x n) r ∧ (r < 0 ∨ 0 ≤ r ∧ r ≤ n ∧ x.length ≤ 1048576) := by
  have hl : x.length ≤ 9223372036854775807 := w
  by_cases c : n - (x.length : Int) < 0
  · exact ⟨-1, Ev.eq (fun k => laws_szMarkS_eq k x n) (Ev.pos (by rw [wrapI (by omega) (by omega)]; omega) Ev.ret), .inl (by omega)⟩
  · exact ⟨n - x.length, Ev.eq (fun k => laws_szMarkS_eq k x n) (Ev.neg (by rw [wrapI (by omega) (by omega)]; omega) (Ev.ret.val (wrapI (by omega) (by omega)))), .inr ⟨by omega, by omega, by omega⟩⟩
theorem laws_szLetterS_ok (x : List (Ty.den T65)) (w : x.length ≤ maxLen) (n : Int) (hn : 0 ≤ n) (hm : n ≤ 1048576) : ∃ r, Ev (fun k => laws_szLetterS k x n) r ∧ (r < 0 ∨ 0 ≤ r ∧ r ≤ n ∧ x.length ≤ 1048576) := by
  have hl : x.length ≤ 9223372036854775807 := w
  by_cases c : n - (x.length : Int) < 0
  · exact ⟨-1, Ev.eq (fun k => laws_szLetterS_eq k x n) (Ev.pos (by rw [wrapI (by omega) (by omega)]; omega) Ev.ret), .inl (by omega)⟩
  · exact ⟨n - x.length, Ev.eq (fun k => laws_szLetterS_eq k x n) (Ev.neg (by rw [wrapI (by omega) (by omega)]; omega) (Ev.ret.val (wrapI (by omega) (by omega)))), .inr ⟨by omega, by omega, by omega⟩⟩
def BP (x : DT117) : Prop := x.2.2.2.1.length ≤ 1048576
theorem laws_szPlayer_ok (x : DT117) (w : Wd T117 x) (n : Int) (hn : 0 ≤ n) (hm : n ≤ 1048576) : ∃ r, Ev (fun k => laws_szPlayer k x n) r ∧ (r < 0 ∨ 0 ≤ r ∧ r ≤ n ∧ BP x) := by
  obtain ⟨r, er, hr⟩ := laws_szIntS_ok x.2.2.2.1 w.2.2.2.1.1 n hn hm
  by_cases c : r < 0
  · exact ⟨-1, Ev.eq (fun k => laws_szPlayer_eq k x n) (Ev.bind er (Ev.pos c Ev.ret)), .inl (by omega)⟩
  · exact ⟨r, Ev.eq (fun k => laws_szPlayer_eq k x n) (Ev.bind er (Ev.neg c Ev.ret)), hr⟩
theorem laws_szPlayerS_l (x : List DT117) (w : Wd (.list T117) x) (hx : x.length ≤ 1048576) : ∀ (d i : Nat) (n : Int), i + d = x.length → 0 ≤ n → n ≤ 1048576 → ∃ r, E2 (fun k m => laws_szPlayerS.l0 k m x n (i : Int)) r ∧ (r < 0 ∨ 0 ≤ r ∧ r ≤ n ∧ ∀ j, i ≤ j → j < x.length → BP (rd T117 x (j : Int))) := by
  intro d
  induction d with
  | zero =>
    intro i n hi hn hm
    exact ⟨n, E2.eq (fun k m => laws_szPlayerS.l0_eq k m x n _) (E2.neg (by omega) E2.ret), .inr ⟨hn, by omega, fun j h1 h2 => by omega⟩⟩
  | succ d ih =>
    intro i n hi hn hm
    have hi' : i < x.length := by omega
    obtain ⟨r0, e0, h0⟩ := laws_szPlayer_ok (rd T117 x (i : Int)) (by rw [rd_at hi']; exact w.2 _ (List.getElem_mem hi')) n hn hm
    by_cases c : r0 < 0
    · exact ⟨-1, E2.eq (fun k m => laws_szPlayerS.l0_eq k m x n _) (E2.pos (by omega) (E2.pos (by omega) (E2.pos (by omega) (E2.bind e0 (E2.pos c E2.ret))))), .inl (by omega)⟩
    · have h0 := h0.resolve_left c
      obtain ⟨r, e1, h1⟩ := ih (i + 1) r0 (by omega) (by omega) (by omega)
      refine ⟨r, E2.eq (fun k m => laws_szPlayerS.l0_eq k m x n _) (E2.pos (by omega) (E2.pos (by omega) (E2.pos (by omega) (E2.bind e0 (E2.neg c ?_))))), h1.imp id fun h => ⟨h.1, by omega, fun j h2 h3 => ?_⟩⟩
      · rw [wrapS (by omega)]; exact e1
      · by_cases hj : j = i
        · subst hj; exact h0.2.2
        · exact h.2.2 j (by omega) h3
def BPs (x : List DT117) : Prop := x.length ≤ 1048576 ∧ ∀ i : Nat, i < x.length → BP (rd T117 x (i : Int))
theorem laws_szPlayerS_ok (x : List DT117) (w : Wd (.list T117) x) (n : Int) (hn : 0 ≤ n) (hm : n ≤ 1048576) : ∃ r, Ev (fun k => laws_szPlayerS k x n) r ∧ (r < 0 ∨ 0 ≤ r ∧ r ≤ n ∧ BPs x) := by
  have hl : x.length ≤ 9223372036854775807 := w.1
  by_cases c : n - (x.length : Int) < 0
  · exact ⟨-1, Ev.eq (fun k => laws_szPlayerS_eq k x n) (Ev.pos (by rw [wrapI (by omega) (by omega)]; omega) Ev.ret), .inl (by omega)⟩
  · obtain ⟨r, e, h⟩ := laws_szPlayerS_l x w (by omega) x.length 0 (n - x.length) (by omega) (by omega) (by omega)
    refine ⟨r, Ev.eq (fun k => laws_szPlayerS_eq k x n) (Ev.neg (by rw [wrapI (by omega) (by omega)]; omega) (Ev.loop (f := fun k m => laws_szPlayerS.l0 k m x (IntKind.wrap .i64 (n - ((List.length x : Nat) : Int))) 0) ?_)), h.imp id fun h => ⟨h.1, by omega, by omega, fun i hi => h.2.2 i (Nat.zero_le _) hi⟩⟩
    rw [wrapI (by omega) (by omega)]
    exact e
def BO (x : DT71) : Prop := x.1.length ≤ 1048576 ∧ x.2.2.1.length ≤ 1048576 ∧ BPs x.2.2.2.1 ∧ x.2.2.2.2.1.length ≤ 1048576 ∧ x.2.2.2.2.2.1.length ≤ 1048576 ∧ x.2.2.2.2.2.2.1.length ≤ 1048576
theorem laws_szOrchestra_ok (x : DT71) (w : Wd T71 x) (n : Int) (hn : 0 ≤ n) (hm : n ≤ 1048576) : ∃ r, Ev (fun k => laws_szOrchestra k x n) r ∧ (r < 0 ∨ 0 ≤ r ∧ r ≤ n ∧ BO x) := by
  obtain ⟨r0, e0, h0⟩ := laws_szEventS_ok x.1 w.1.1 n (by omega) (by omega)
  by_cases c0 : r0 < 0
  · exact ⟨-1, Ev.eq (fun k => laws_szOrchestra_eq k x n) (Ev.bind e0 (Ev.pos c0 Ev.ret)), .inl (by omega)⟩
  replace h0 := h0.resolve_left c0
  obtain ⟨r1, e1, h1⟩ := laws_szTempoS_ok x.2.2.1 w.2.2.1.1 r0 (by omega) (by omega)
  by_cases c1 : r1 < 0
  · exact ⟨-1, Ev.eq (fun k => laws_szOrchestra_eq k x n) (Ev.bind e0 (Ev.neg c0 (Ev.bind e1 (Ev.pos c1 Ev.ret)))), .inl (by omega)⟩
  replace h1 := h1.resolve_left c1
  obtain ⟨r2, e2, h2⟩ := laws_szPlayerS_ok x.2.2.2.1 w.2.2.2.1 r1 (by omega) (by omega)
  by_cases c2 : r2 < 0
  · exact ⟨-1, Ev.eq (fun k => laws_szOrchestra_eq k x n) (Ev.bind e0 (Ev.neg c0 (Ev.bind e1 (Ev.neg c1 (Ev.bind e2 (Ev.pos c2 Ev.ret)))))), .inl (by omega)⟩
  replace h2 := h2.resolve_left c2
  obtain ⟨r3, e3, h3⟩ := laws_szIntS_ok x.2.2.2.2.1 w.2.2.2.2.1.1 r2 (by omega) (by omega)
  by_cases c3 : r3 < 0
  · exact ⟨-1, Ev.eq (fun k => laws_szOrchestra_eq k x n) (Ev.bind e0 (Ev.neg c0 (Ev.bind e1 (Ev.neg c1 (Ev.bind e2 (Ev.neg c2 (Ev.bind e3 (Ev.pos c3 Ev.ret)))))))), .inl (by omega)⟩
  replace h3 := h3.resolve_left c3
  obtain ⟨r4, e4, h4⟩ := laws_szMarkS_ok x.2.2.2.2.2.1 w.2.2.2.2.2.1.1 r3 (by omega) (by omega)
  by_cases c4 : r4 < 0
  · exact ⟨-1, Ev.eq (fun k => laws_szOrchestra_eq k x n) (Ev.bind e0 (Ev.neg c0 (Ev.bind e1 (Ev.neg c1 (Ev.bind e2 (Ev.neg c2 (Ev.bind e3 (Ev.neg c3 (Ev.bind e4 (Ev.pos c4 Ev.ret)))))))))), .inl (by omega)⟩
  replace h4 := h4.resolve_left c4
  obtain ⟨r5, e5, h5⟩ := laws_szLetterS_ok x.2.2.2.2.2.2.1 w.2.2.2.2.2.2.1.1 r4 (by omega) (by omega)
  by_cases c5 : r5 < 0
  · exact ⟨-1, Ev.eq (fun k => laws_szOrchestra_eq k x n) (Ev.bind e0 (Ev.neg c0 (Ev.bind e1 (Ev.neg c1 (Ev.bind e2 (Ev.neg c2 (Ev.bind e3 (Ev.neg c3 (Ev.bind e4 (Ev.neg c4 (Ev.bind e5 (Ev.pos c5 Ev.ret)))))))))))), .inl (by omega)⟩
  replace h5 := h5.resolve_left c5
  exact ⟨r5, Ev.eq (fun k => laws_szOrchestra_eq k x n) (Ev.bind e0 (Ev.neg c0 (Ev.bind e1 (Ev.neg c1 (Ev.bind e2 (Ev.neg c2 (Ev.bind e3 (Ev.neg c3 (Ev.bind e4 (Ev.neg c4 (Ev.bind e5 (Ev.neg c5 (Ev.ret))))))))))))), .inr ⟨by omega, by omega, h0.2.2, h1.2.2, h2.2.2, h3.2.2, h4.2.2, h5.2.2⟩⟩
theorem toEvent_id (x : DT113) : Ev (fun k => laws_toEvent k x) x := Ev.eq (fun k => laws_toEvent_eq k x) Ev.ret
theorem toTempo_id (x : DT65) : Ev (fun k => laws_toTempo k x) x := Ev.eq (fun k => laws_toTempo_eq k x) Ev.ret
theorem toMark_id (x : DT119) : Ev (fun k => laws_toMark k x) x := Ev.eq (fun k => laws_toMark_eq k x) Ev.ret
theorem toLetter_id (x : DT65) : Ev (fun k => laws_toLetter k x) x := Ev.eq (fun k => laws_toLetter_eq k x) Ev.ret
theorem toMeter_id (x : DT65) : Ev (fun k => laws_toMeter k x) x := Ev.eq (fun k => laws_toMeter_eq k x) Ev.ret
theorem toEventS_id (x : List (Ty.den T113)) (h : x.length ≤ 1048576) : Ev (fun k => laws_toEventS k x) x := by
  have hL : x.length ≤ 1048576 := h
  refine Ev.eq (fun k => laws_toEventS_eq k x) (Ev.pos (by omega) (Ev.pos (by omega) (Ev.pos (by omega) (Ev.loop (f := fun k m => laws_toEventS.l0 k m x 0 (List.replicate (Int.toNat ((List.length x : Nat) : Int)) (Ty.dflt T113))) ?_))))
  have key := loop_map (t := T113) (u := T113) (F := fun i y k m => laws_toEventS.l0 k m x i y) (x := x) (fun a => a) (fun y => E2.eq (fun k m => laws_toEventS.l0_eq k m x _ y) (E2.neg (by omega) E2.ret)) (fun i y hi hy v e => by
    refine E2.eq (fun k m => laws_toEventS.l0_eq k m x _ y) (E2.pos (by omega) (E2.pos (by omega) (E2.pos (by omega) (E2.bind (toEvent_id _) (E2.pos (by omega) (E2.pos (by omega) ?_))))))
    rw [wrapS (by omega), Int.toNat_natCast]; exact e) (List.replicate (Int.toNat ((List.length x : Nat) : Int)) (Ty.dflt T113)) (by simp)
  exact key.val (by simp)
theorem toTempoS_id (x : List (Ty.den T65)) (h : x.length ≤ 1048576) : Ev (fun k => laws_toTempoS k x) x := by
  have hL : x.length ≤ 1048576 := h
  refine Ev.eq (fun k => laws_toTempoS_eq k x) (Ev.pos (by omega) (Ev.pos (by omega) (Ev.pos (by omega) (Ev.loop (f := fun k m => laws_toTempoS.l0 k m x 0 (List.replicate (Int.toNat ((List.length x : Nat) : Int)) (Ty.dflt T65))) ?_))))
  have key := loop_map (t := T65) (u := T65) (F := fun i y k m => laws_toTempoS.l0 k m x i y) (x := x) (fun a => a) (fun y => E2.eq (fun k m => laws_toTempoS.l0_eq k m x _ y) (E2.neg (by omega) E2.ret)) (fun i y hi hy v e => by
    refine E2.eq (fun k m => laws_toTempoS.l0_eq k m x _ y) (E2.pos (by omega) (E2.pos (by omega) (E2.pos (by omega) (E2.bind (toTempo_id _) (E2.pos (by omega) (E2.pos (by omega) ?_))))))
    rw [wrapS (by omega), Int.toNat_natCast]; exact e) (List.replicate (Int.toNat ((List.length x : Nat) : Int)) (Ty.dflt T65)) (by simp)
  exact key.val (by simp)
theorem toIntS_id (x : List (Ty.den (.int .i64))) (h : x.length ≤ 1048576) : Ev (fun k => laws_toIntS k x) x := by
  have hL : x.length ≤ 1048576 := h
  refine Ev.eq (fun k => laws_toIntS_eq k x) (Ev.pos (by omega) (Ev.pos (by omega) (Ev.pos (by omega) (Ev.loop (f := fun k m => laws_toIntS.l0 k m x 0 (List.replicate (Int.toNat ((List.length x : Nat) : Int)) (Ty.dflt (.int .i64)))) ?_))))
  have key := loop_map (t := (.int .i64)) (u := (.int .i64)) (F := fun i y k m => laws_toIntS.l0 k m x i y) (x := x) (fun a => a) (fun y => E2.eq (fun k m => laws_toIntS.l0_eq k m x _ y) (E2.neg (by omega) E2.ret)) (fun i y hi hy v e => by
    refine E2.eq (fun k m => laws_toIntS.l0_eq k m x _ y) (E2.pos (by omega) (E2.pos (by omega) (E2.pos (by omega) (E2.pos (by omega) (E2.pos (by omega) ?_)))))
    rw [wrapS (by omega), Int.toNat_natCast]; exact e) (List.replicate (Int.toNat ((List.length x : Nat) : Int)) (Ty.dflt (.int .i64))) (by simp)
  exact key.val (by simp)
theorem toMarkS_id (x : List (Ty.den T119)) (h : x.length ≤ 1048576) : Ev (fun k => laws_toMarkS k x) x := by
  have hL : x.length ≤ 1048576 := h
  refine Ev.eq (fun k => laws_toMarkS_eq k x) (Ev.pos (by omega) (Ev.pos (by omega) (Ev.pos (by omega) (Ev.loop (f := fun k m => laws_toMarkS.l0 k m x 0 (List.replicate (Int.toNat ((List.length x : Nat) : Int)) (Ty.dflt T119))) ?_))))
  have key := loop_map (t := T119) (u := T119) (F := fun i y k m => laws_toMarkS.l0 k m x i y) (x := x) (fun a => a) (fun y => E2.eq (fun k m => laws_toMarkS.l0_eq k m x _ y) (E2.neg (by omega) E2.ret)) (fun i y hi hy v e => by
    refine E2.eq (fun k m => laws_toMarkS.l0_eq k m x _ y) (E2.pos (by omega) (E2.pos (by omega) (E2.pos (by omega) (E2.bind (toMark_id _) (E2.pos (by omega) (E2.pos (by omega) ?_))))))
    rw [wrapS (by omega), Int.toNat_natCast]; exact e) (List.replicate (Int.toNat ((List.length x : Nat) : Int)) (Ty.dflt T119)) (by simp)
  exact key.val (by simp)
theorem toLetterS_id (x : List (Ty.den T65)) (h : x.length ≤ 1048576) : Ev (fun k => laws_toLetterS k x) x := by
  have hL : x.length ≤ 1048576 := h
  refine Ev.eq (fun k => laws_toLetterS_eq k x) (Ev.pos (by omega) (Ev.pos (by omega) (Ev.pos (by omega) (Ev.loop (f := fun k m => laws_toLetterS.l0 k m x 0 (List.replicate (Int.toNat ((List.length x : Nat) : Int)) (Ty.dflt T65))) ?_))))
  have key := loop_map (t := T65) (u := T65) (F := fun i y k m => laws_toLetterS.l0 k m x i y) (x := x) (fun a => a) (fun y => E2.eq (fun k m => laws_toLetterS.l0_eq k m x _ y) (E2.neg (by omega) E2.ret)) (fun i y hi hy v e => by
    refine E2.eq (fun k m => laws_toLetterS.l0_eq k m x _ y) (E2.pos (by omega) (E2.pos (by omega) (E2.pos (by omega) (E2.bind (toLetter_id _) (E2.pos (by omega) (E2.pos (by omega) ?_))))))
    rw [wrapS (by omega), Int.toNat_natCast]; exact e) (List.replicate (Int.toNat ((List.length x : Nat) : Int)) (Ty.dflt T65)) (by simp)
  exact key.val (by simp)
theorem toPlayer_id (x : DT117) (h : BP x) : Ev (fun k => laws_toPlayer k x) x := Ev.eq (fun k => laws_toPlayer_eq k x) (Ev.bind (toIntS_id _ h) Ev.ret)
theorem toPlayerS_id (x : List (Ty.den T117)) (h : BPs x) : Ev (fun k => laws_toPlayerS k x) x := by
  have hL : x.length ≤ 1048576 := h.1
  refine Ev.eq (fun k => laws_toPlayerS_eq k x) (Ev.pos (by omega) (Ev.pos (by omega) (Ev.pos (by omega) (Ev.loop (f := fun k m => laws_toPlayerS.l0 k m x 0 (List.replicate (Int.toNat ((List.length x : Nat) : Int)) (Ty.dflt T117))) ?_))))
  have key := loop_map (t := T117) (u := T117) (F := fun i y k m => laws_toPlayerS.l0 k m x i y) (x := x) (fun a => a) (fun y => E2.eq (fun k m => laws_toPlayerS.l0_eq k m x _ y) (E2.neg (by omega) E2.ret)) (fun i y hi hy v e => by
    refine E2.eq (fun k m => laws_toPlayerS.l0_eq k m x _ y) (E2.pos (by omega) (E2.pos (by omega) (E2.pos (by omega) (E2.bind (toPlayer_id _ (h.2 i hi)) (E2.pos (by omega) (E2.pos (by omega) ?_))))))
    rw [wrapS (by omega), Int.toNat_natCast]; exact e) (List.replicate (Int.toNat ((List.length x : Nat) : Int)) (Ty.dflt T117)) (by simp)
  exact key.val (by simp)
theorem toOrchestra_id (x : DT71) (h : BO x) : Ev (fun k => laws_toOrchestra k x) x :=
  Ev.eq (fun k => laws_toOrchestra_eq k x) (Ev.bind (toEventS_id _ h.1) (Ev.bind (toMeter_id _) (Ev.bind (toTempoS_id _ h.2.1) (Ev.bind (toPlayerS_id _ h.2.2.1) (Ev.bind (toIntS_id _ h.2.2.2.1) (Ev.bind (toMarkS_id _ h.2.2.2.2.1) (Ev.bind (toLetterS_id _ h.2.2.2.2.2) Ev.ret)))))))
theorem eqEvent_self (x : DT113) : Ev (fun k => laws_eqEvent k x x) true := Ev.eq (fun k => laws_eqEvent_eq k x x) (Ev.neg (by simp) (Ev.neg (by simp) (Ev.neg (by simp) (Ev.neg (by simp) Ev.ret))))
theorem eqTempo_self (x : DT65) : Ev (fun k => laws_eqTempo k x x) true := Ev.eq (fun k => laws_eqTempo_eq k x x) (Ev.neg (by simp) (Ev.neg (by simp) Ev.ret))
theorem eqMark_self (x : DT119) : Ev (fun k => laws_eqMark k x x) true := Ev.eq (fun k => laws_eqMark_eq k x x) (Ev.neg (by simp) (Ev.neg (by simp) (Ev.neg (by simp) (Ev.neg (by simp) (Ev.neg (by simp) Ev.ret)))))
theorem eqLetter_self (x : DT65) : Ev (fun k => laws_eqLetter k x x) true := Ev.eq (fun k => laws_eqLetter_eq k x x) (Ev.neg (by simp) (Ev.neg (by simp) Ev.ret))
theorem eqMeter_self (x : DT65) : Ev (fun k => laws_eqMeter k x x) true := Ev.eq (fun k => laws_eqMeter_eq k x x) (Ev.neg (by simp) (Ev.neg (by simp) Ev.ret))
theorem eqEventS_self (x : List (Ty.den T113)) (h : x.length ≤ 1048576) : Ev (fun k => laws_eqEventS k x x) true := by
  have hL : x.length ≤ 1048576 := h
  refine Ev.eq (fun k => laws_eqEventS_eq k x x) (Ev.neg (by simp) (Ev.loop (f := fun k m => laws_eqEventS.l0 k m x x 0) ?_))
  obtain ⟨r, er, hr⟩ := loop_all (F := fun i k m => laws_eqEventS.l0 k m x x i) (n := x.length) (fun _ => True) (E2.eq (fun k m => laws_eqEventS.l0_eq k m x x _) (E2.neg (by omega) E2.ret)) (fun i hi _ v e => by
    refine E2.eq (fun k m => laws_eqEventS.l0_eq k m x x _) (E2.pos (by omega) (E2.pos (by omega) (E2.pos (by omega) (E2.pos (by omega) (E2.pos (by omega) (E2.bind (eqEvent_self _) (E2.neg (by simp) ?_)))))))
    rw [wrapS (by omega)]; exact e) (fun i hi hq => (hq trivial).elim)
  exact er.val (hr.2 fun _ _ => trivial)
theorem eqTempoS_self (x : List (Ty.den T65)) (h : x.length ≤ 1048576) : Ev (fun k => laws_eqTempoS k x x) true := by
  have hL : x.length ≤ 1048576 := h
  refine Ev.eq (fun k => laws_eqTempoS_eq k x x) (Ev.neg (by simp) (Ev.loop (f := fun k m => laws_eqTempoS.l0 k m x x 0) ?_))
  obtain ⟨r, er, hr⟩ := loop_all (F := fun i k m => laws_eqTempoS.l0 k m x x i) (n := x.length) (fun _ => True) (E2.eq (fun k m => laws_eqTempoS.l0_eq k m x x _) (E2.neg (by omega) E2.ret)) (fun i hi _ v e => by
    refine E2.eq (fun k m => laws_eqTempoS.l0_eq k m x x _) (E2.pos (by omega) (E2.pos (by omega) (E2.pos (by omega) (E2.pos (by omega) (E2.pos (by omega) (E2.bind (eqTempo_self _) (E2.neg (by simp) ?_)))))))
    rw [wrapS (by omega)]; exact e) (fun i hi hq => (hq trivial).elim)
  exact er.val (hr.2 fun _ _ => trivial)
theorem eqIntS_self (x : List (Ty.den (.int .i64))) (h : x.length ≤ 1048576) : Ev (fun k => laws_eqIntS k x x) true := by
  have hL : x.length ≤ 1048576 := h
  refine Ev.eq (fun k => laws_eqIntS_eq k x x) (Ev.neg (by simp) (Ev.loop (f := fun k m => laws_eqIntS.l0 k m x x 0) ?_))
  obtain ⟨r, er, hr⟩ := loop_all (F := fun i k m => laws_eqIntS.l0 k m x x i) (n := x.length) (fun _ => True) (E2.eq (fun k m => laws_eqIntS.l0_eq k m x x _) (E2.neg (by omega) E2.ret)) (fun i hi _ v e => by
    refine E2.eq (fun k m => laws_eqIntS.l0_eq k m x x _) (E2.pos (by omega) (E2.pos (by omega) (E2.pos (by omega) (E2.pos (by omega) (E2.pos (by omega) (E2.neg (by simp) ?_))))))
    rw [wrapS (by omega)]; exact e) (fun i hi hq => (hq trivial).elim)
  exact er.val (hr.2 fun _ _ => trivial)
theorem eqMarkS_self (x : List (Ty.den T119)) (h : x.length ≤ 1048576) : Ev (fun k => laws_eqMarkS k x x) true := by
  have hL : x.length ≤ 1048576 := h
  refine Ev.eq (fun k => laws_eqMarkS_eq k x x) (Ev.neg (by simp) (Ev.loop (f := fun k m => laws_eqMarkS.l0 k m x x 0) ?_))
  obtain ⟨r, er, hr⟩ := loop_all (F := fun i k m => laws_eqMarkS.l0 k m x x i) (n := x.length) (fun _ => True) (E2.eq (fun k m => laws_eqMarkS.l0_eq k m x x _) (E2.neg (by omega) E2.ret)) (fun i hi _ v e => by
    refine E2.eq (fun k m => laws_eqMarkS.l0_eq k m x x _) (E2.pos (by omega) (E2.pos (by omega) (E2.pos (by omega) (E2.pos (by omega) (E2.pos (by omega) (E2.bind (eqMark_self _) (E2.neg (by simp) ?_)))))))
    rw [wrapS (by omega)]; exact e) (fun i hi hq => (hq trivial).elim)
  exact er.val (hr.2 fun _ _ => trivial)
theorem eqLetterS_self (x : List (Ty.den T65)) (h : x.length ≤ 1048576) : Ev (fun k => laws_eqLetterS k x x) true := by
  have hL : x.length ≤ 1048576 := h
  refine Ev.eq (fun k => laws_eqLetterS_eq k x x) (Ev.neg (by simp) (Ev.loop (f := fun k m => laws_eqLetterS.l0 k m x x 0) ?_))
  obtain ⟨r, er, hr⟩ := loop_all (F := fun i k m => laws_eqLetterS.l0 k m x x i) (n := x.length) (fun _ => True) (E2.eq (fun k m => laws_eqLetterS.l0_eq k m x x _) (E2.neg (by omega) E2.ret)) (fun i hi _ v e => by
    refine E2.eq (fun k m => laws_eqLetterS.l0_eq k m x x _) (E2.pos (by omega) (E2.pos (by omega) (E2.pos (by omega) (E2.pos (by omega) (E2.pos (by omega) (E2.bind (eqLetter_self _) (E2.neg (by simp) ?_)))))))
    rw [wrapS (by omega)]; exact e) (fun i hi hq => (hq trivial).elim)
  exact er.val (hr.2 fun _ _ => trivial)
theorem eqPlayer_self (x : DT117) (h : BP x) : Ev (fun k => laws_eqPlayer k x x) true := Ev.eq (fun k => laws_eqPlayer_eq k x x) (Ev.neg (by simp) (Ev.neg (by simp) (Ev.neg (by simp) (Ev.bind (eqIntS_self _ h) (Ev.neg (by simp) Ev.ret)))))
theorem eqPlayerS_self (x : List (Ty.den T117)) (h : BPs x) : Ev (fun k => laws_eqPlayerS k x x) true := by
  have hL : x.length ≤ 1048576 := h.1
  refine Ev.eq (fun k => laws_eqPlayerS_eq k x x) (Ev.neg (by simp) (Ev.loop (f := fun k m => laws_eqPlayerS.l0 k m x x 0) ?_))
  obtain ⟨r, er, hr⟩ := loop_all (F := fun i k m => laws_eqPlayerS.l0 k m x x i) (n := x.length) (fun _ => True) (E2.eq (fun k m => laws_eqPlayerS.l0_eq k m x x _) (E2.neg (by omega) E2.ret)) (fun i hi _ v e => by
    refine E2.eq (fun k m => laws_eqPlayerS.l0_eq k m x x _) (E2.pos (by omega) (E2.pos (by omega) (E2.pos (by omega) (E2.pos (by omega) (E2.pos (by omega) (E2.bind (eqPlayer_self _ (h.2 i hi)) (E2.neg (by simp) ?_)))))))
    rw [wrapS (by omega)]; exact e) (fun i hi hq => (hq trivial).elim)
  exact er.val (hr.2 fun _ _ => trivial)
theorem eqOrchestra_self (x : DT71) (h : BO x) : Ev (fun k => laws_eqOrchestra k x x) true :=
  Ev.eq (fun k => laws_eqOrchestra_eq k x x) (Ev.bind (eqEventS_self _ h.1) (Ev.neg (by simp) (Ev.bind (eqMeter_self _) (Ev.neg (by simp) (Ev.bind (eqTempoS_self _ h.2.1) (Ev.neg (by simp) (Ev.bind (eqPlayerS_self _ h.2.2.1) (Ev.neg (by simp) (Ev.bind (eqIntS_self _ h.2.2.2.1) (Ev.neg (by simp) (Ev.bind (eqMarkS_self _ h.2.2.2.2.1) (Ev.neg (by simp) (Ev.bind (eqLetterS_self _ h.2.2.2.2.2) (Ev.neg (by simp) (Ev.neg (by simp) (Ev.neg (by simp) Ev.ret))))))))))))))))
theorem spec_EqualScores_ok (x y : List (Ty.den T113)) (h : x.length ≤ 1048576) : ∃ r, Ev (fun k => spec_EqualScores k x y) r ∧ (r = true ↔ x = y) := by
  by_cases hl : x.length = y.length
  · obtain ⟨r, er, hr⟩ := loop_all (F := fun i k m => spec_EqualScores.l0 k m x y i) (n := x.length) (fun i => rd T113 x (i : Int) = rd T113 y (i : Int)) (E2.eq (fun k m => spec_EqualScores.l0_eq k m x y _) (E2.neg (by omega) E2.ret)) (fun i hi hq v e => by
      refine E2.eq (fun k m => spec_EqualScores.l0_eq k m x y _) (E2.pos (by omega) (E2.pos (by omega) (E2.pos (by omega) (E2.pos (by omega) (E2.pos (by omega) (E2.neg (by rw [hq]; simp) ?_))))))
      rw [wrapS (by omega)]; exact e) (fun i hi hq => E2.eq (fun k m => spec_EqualScores.l0_eq k m x y _) (E2.pos (by omega) (E2.pos (by omega) (E2.pos (by omega) (E2.pos (by omega) (E2.pos (by omega) (E2.pos (fun c => hq (extT113 c)) E2.ret)))))))
    exact ⟨r, Ev.eq (fun k => spec_EqualScores_eq k x y) (Ev.neg (by omega) (Ev.loop (f := fun k m => spec_EqualScores.l0 k m x y 0) er)), hr.trans (list_eq_iff (t := T113) hl)⟩
  · exact ⟨false, Ev.eq (fun k => spec_EqualScores_eq k x y) (Ev.pos (by omega) Ev.ret), by simp; rintro rfl; exact hl rfl⟩
theorem spec_EqualInts_ok (x y : List (Ty.den (.int .i64))) (h : x.length ≤ 1048576) : ∃ r, Ev (fun k => spec_EqualInts k x y) r ∧ (r = true ↔ x = y) := by
  by_cases hl : x.length = y.length
  · obtain ⟨r, er, hr⟩ := loop_all (F := fun i k m => spec_EqualInts.l0 k m x y i) (n := x.length) (fun i => rd (.int .i64) x (i : Int) = rd (.int .i64) y (i : Int)) (E2.eq (fun k m => spec_EqualInts.l0_eq k m x y _) (E2.neg (by omega) E2.ret)) (fun i hi hq v e => by
      refine E2.eq (fun k m => spec_EqualInts.l0_eq k m x y _) (E2.pos (by omega) (E2.pos (by omega) (E2.pos (by omega) (E2.pos (by omega) (E2.pos (by omega) (E2.neg (by rw [hq]; simp) ?_))))))
      rw [wrapS (by omega)]; exact e) (fun i hi hq => E2.eq (fun k m => spec_EqualInts.l0_eq k m x y _) (E2.pos (by omega) (E2.pos (by omega) (E2.pos (by omega) (E2.pos (by omega) (E2.pos (by omega) (E2.pos hq E2.ret)))))))
    exact ⟨r, Ev.eq (fun k => spec_EqualInts_eq k x y) (Ev.neg (by omega) (Ev.loop (f := fun k m => spec_EqualInts.l0 k m x y 0) er)), hr.trans (list_eq_iff (t := (.int .i64)) hl)⟩
  · exact ⟨false, Ev.eq (fun k => spec_EqualInts_eq k x y) (Ev.pos (by omega) Ev.ret), by simp; rintro rfl; exact hl rfl⟩
theorem spec_EqualMarks_ok (x y : List (Ty.den T119)) (h : x.length ≤ 1048576) : ∃ r, Ev (fun k => spec_EqualMarks k x y) r ∧ (r = true ↔ x = y) := by
  by_cases hl : x.length = y.length
  · obtain ⟨r, er, hr⟩ := loop_all (F := fun i k m => spec_EqualMarks.l0 k m x y i) (n := x.length) (fun i => rd T119 x (i : Int) = rd T119 y (i : Int)) (E2.eq (fun k m => spec_EqualMarks.l0_eq k m x y _) (E2.neg (by omega) E2.ret)) (fun i hi hq v e => by
      refine E2.eq (fun k m => spec_EqualMarks.l0_eq k m x y _) (E2.pos (by omega) (E2.pos (by omega) (E2.pos (by omega) (E2.pos (by omega) (E2.pos (by omega) (E2.neg (by rw [hq]; simp) ?_))))))
      rw [wrapS (by omega)]; exact e) (fun i hi hq => E2.eq (fun k m => spec_EqualMarks.l0_eq k m x y _) (E2.pos (by omega) (E2.pos (by omega) (E2.pos (by omega) (E2.pos (by omega) (E2.pos (by omega) (E2.pos (fun c => hq (extT119 c)) E2.ret)))))))
    exact ⟨r, Ev.eq (fun k => spec_EqualMarks_eq k x y) (Ev.neg (by omega) (Ev.loop (f := fun k m => spec_EqualMarks.l0 k m x y 0) er)), hr.trans (list_eq_iff (t := T119) hl)⟩
  · exact ⟨false, Ev.eq (fun k => spec_EqualMarks_eq k x y) (Ev.pos (by omega) Ev.ret), by simp; rintro rfl; exact hl rfl⟩
theorem slices_Equal_impl_Event_ok (x y : List (Ty.den T113)) (h : x.length ≤ 1048576) : ∃ r, Ev (fun k => slices_Equal_impl_Event k x y) r ∧ (r = true ↔ x = y) := by
  by_cases hl : x.length = y.length
  · obtain ⟨r, er, hr⟩ := loop_all (F := fun i k m => slices_Equal_impl_Event.l0 k m x y ((List.length x : Nat) : Int) i) (n := x.length) (fun i => rd T113 x (i : Int) = rd T113 y (i : Int)) (E2.eq (fun k m => slices_Equal_impl_Event.l0_eq k m x y ((List.length x : Nat) : Int) _) (E2.neg (by omega) E2.ret)) (fun i hi hq v e => by
      refine E2.eq (fun k m => slices_Equal_impl_Event.l0_eq k m x y ((List.length x : Nat) : Int) _) (E2.pos (by omega) (E2.pos (by omega) (E2.pos (by omega) (E2.pos (by omega) (E2.pos (by omega) (E2.neg (by rw [hq]; simp) ?_))))))
      rw [wrapS (by omega)]; exact e) (fun i hi hq => E2.eq (fun k m => slices_Equal_impl_Event.l0_eq k m x y ((List.length x : Nat) : Int) _) (E2.pos (by omega) (E2.pos (by omega) (E2.pos (by omega) (E2.pos (by omega) (E2.pos (by omega) (E2.pos (fun c => hq (extT113 c)) E2.ret)))))))
    exact ⟨r, Ev.eq (fun k => slices_Equal_impl_Event_eq k x y) (Ev.neg (by omega) (Ev.loop (f := fun k m => slices_Equal_impl_Event.l0 k m x y ((List.length x : Nat) : Int) 0) er)), hr.trans (list_eq_iff (t := T113) hl)⟩
  · exact ⟨false, Ev.eq (fun k => slices_Equal_impl_Event_eq k x y) (Ev.pos (by omega) Ev.ret), by simp; rintro rfl; exact hl rfl⟩
theorem slices_Equal_impl_Tempo_ok (x y : List (Ty.den T65)) (h : x.length ≤ 1048576) : ∃ r, Ev (fun k => slices_Equal_impl_Tempo k x y) r ∧ (r = true ↔ x = y) := by
  by_cases hl : x.length = y.length
  · obtain ⟨r, er, hr⟩ := loop_all (F := fun i k m => slices_Equal_impl_Tempo.l0 k m x y ((List.length x : Nat) : Int) i) (n := x.length) (fun i => rd T65 x (i : Int) = rd T65 y (i : Int)) (E2.eq (fun k m => slices_Equal_impl_Tempo.l0_eq k m x y ((List.length x : Nat) : Int) _) (E2.neg (by omega) E2.ret)) (fun i hi hq v e => by
      refine E2.eq (fun k m => slices_Equal_impl_Tempo.l0_eq k m x y ((List.length x : Nat) : Int) _) (E2.pos (by omega) (E2.pos (by omega) (E2.pos (by omega) (E2.pos (by omega) (E2.pos (by omega) (E2.neg (by rw [hq]; simp) ?_))))))
      rw [wrapS (by omega)]; exact e) (fun i hi hq => E2.eq (fun k m => slices_Equal_impl_Tempo.l0_eq k m x y ((List.length x : Nat) : Int) _) (E2.pos (by omega) (E2.pos (by omega) (E2.pos (by omega) (E2.pos (by omega) (E2.pos (by omega) (E2.pos (fun c => hq (extT65 c)) E2.ret)))))))
    exact ⟨r, Ev.eq (fun k => slices_Equal_impl_Tempo_eq k x y) (Ev.neg (by omega) (Ev.loop (f := fun k m => slices_Equal_impl_Tempo.l0 k m x y ((List.length x : Nat) : Int) 0) er)), hr.trans (list_eq_iff (t := T65) hl)⟩
  · exact ⟨false, Ev.eq (fun k => slices_Equal_impl_Tempo_eq k x y) (Ev.pos (by omega) Ev.ret), by simp; rintro rfl; exact hl rfl⟩
theorem slices_Equal___int_int_ok (x y : List (Ty.den (.int .i64))) (h : x.length ≤ 1048576) : ∃ r, Ev (fun k => slices_Equal___int_int k x y) r ∧ (r = true ↔ x = y) := by
  by_cases hl : x.length = y.length
  · obtain ⟨r, er, hr⟩ := loop_all (F := fun i k m => slices_Equal___int_int.l0 k m x y ((List.length x : Nat) : Int) i) (n := x.length) (fun i => rd (.int .i64) x (i : Int) = rd (.int .i64) y (i : Int)) (E2.eq (fun k m => slices_Equal___int_int.l0_eq k m x y ((List.length x : Nat) : Int) _) (E2.neg (by omega) E2.ret)) (fun i hi hq v e => by
      refine E2.eq (fun k m => slices_Equal___int_int.l0_eq k m x y ((List.length x : Nat) : Int) _) (E2.pos (by omega) (E2.pos (by omega) (E2.pos (by omega) (E2.pos (by omega) (E2.pos (by omega) (E2.neg (by rw [hq]; simp) ?_))))))
      rw [wrapS (by omega)]; exact e) (fun i hi hq => E2.eq (fun k m => slices_Equal___int_int.l0_eq k m x y ((List.length x : Nat) : Int) _) (E2.pos (by omega) (E2.pos (by omega) (E2.pos (by omega) (E2.pos (by omega) (E2.pos (by omega) (E2.pos hq E2.ret)))))))
    exact ⟨r, Ev.eq (fun k => slices_Equal___int_int_eq k x y) (Ev.neg (by omega) (Ev.loop (f := fun k m => slices_Equal___int_int.l0 k m x y ((List.length x : Nat) : Int) 0) er)), hr.trans (list_eq_iff (t := (.int .i64)) hl)⟩
  · exact ⟨false, Ev.eq (fun k => slices_Equal___int_int_eq k x y) (Ev.pos (by omega) Ev.ret), by simp; rintro rfl; exact hl rfl⟩
theorem slices_Equal_impl_Mark_ok (x y : List (Ty.den T119)) (h : x.length ≤ 1048576) : ∃ r, Ev (fun k => slices_Equal_impl_Mark k x y) r ∧ (r = true ↔ x = y) := by
  by_cases hl : x.length = y.length
  · obtain ⟨r, er, hr⟩ := loop_all (F := fun i k m => slices_Equal_impl_Mark.l0 k m x y ((List.length x : Nat) : Int) i) (n := x.length) (fun i => rd T119 x (i : Int) = rd T119 y (i : Int)) (E2.eq (fun k m => slices_Equal_impl_Mark.l0_eq k m x y ((List.length x : Nat) : Int) _) (E2.neg (by omega) E2.ret)) (fun i hi hq v e => by
      refine E2.eq (fun k m => slices_Equal_impl_Mark.l0_eq k m x y ((List.length x : Nat) : Int) _) (E2.pos (by omega) (E2.pos (by omega) (E2.pos (by omega) (E2.pos (by omega) (E2.pos (by omega) (E2.neg (by rw [hq]; simp) ?_))))))
      rw [wrapS (by omega)]; exact e) (fun i hi hq => E2.eq (fun k m => slices_Equal_impl_Mark.l0_eq k m x y ((List.length x : Nat) : Int) _) (E2.pos (by omega) (E2.pos (by omega) (E2.pos (by omega) (E2.pos (by omega) (E2.pos (by omega) (E2.pos (fun c => hq (extT119 c)) E2.ret)))))))
    exact ⟨r, Ev.eq (fun k => slices_Equal_impl_Mark_eq k x y) (Ev.neg (by omega) (Ev.loop (f := fun k m => slices_Equal_impl_Mark.l0 k m x y ((List.length x : Nat) : Int) 0) er)), hr.trans (list_eq_iff (t := T119) hl)⟩
  · exact ⟨false, Ev.eq (fun k => slices_Equal_impl_Mark_eq k x y) (Ev.pos (by omega) Ev.ret), by simp; rintro rfl; exact hl rfl⟩
theorem slices_Equal_impl_Letter_ok (x y : List (Ty.den T65)) (h : x.length ≤ 1048576) : ∃ r, Ev (fun k => slices_Equal_impl_Letter k x y) r ∧ (r = true ↔ x = y) := by
  by_cases hl : x.length = y.length
  · obtain ⟨r, er, hr⟩ := loop_all (F := fun i k m => slices_Equal_impl_Letter.l0 k m x y ((List.length x : Nat) : Int) i) (n := x.length) (fun i => rd T65 x (i : Int) = rd T65 y (i : Int)) (E2.eq (fun k m => slices_Equal_impl_Letter.l0_eq k m x y ((List.length x : Nat) : Int) _) (E2.neg (by omega) E2.ret)) (fun i hi hq v e => by
      refine E2.eq (fun k m => slices_Equal_impl_Letter.l0_eq k m x y ((List.length x : Nat) : Int) _) (E2.pos (by omega) (E2.pos (by omega) (E2.pos (by omega) (E2.pos (by omega) (E2.pos (by omega) (E2.neg (by rw [hq]; simp) ?_))))))
      rw [wrapS (by omega)]; exact e) (fun i hi hq => E2.eq (fun k m => slices_Equal_impl_Letter.l0_eq k m x y ((List.length x : Nat) : Int) _) (E2.pos (by omega) (E2.pos (by omega) (E2.pos (by omega) (E2.pos (by omega) (E2.pos (by omega) (E2.pos (fun c => hq (extT65 c)) E2.ret)))))))
    exact ⟨r, Ev.eq (fun k => slices_Equal_impl_Letter_eq k x y) (Ev.neg (by omega) (Ev.loop (f := fun k m => slices_Equal_impl_Letter.l0 k m x y ((List.length x : Nat) : Int) 0) er)), hr.trans (list_eq_iff (t := T65) hl)⟩
  · exact ⟨false, Ev.eq (fun k => slices_Equal_impl_Letter_eq k x y) (Ev.pos (by omega) Ev.ret), by simp; rintro rfl; exact hl rfl⟩
theorem plEq {a b : DT117} : a = b ↔ (a.1 : Int) = b.1 ∧ (a.2.1 : Int) = b.2.1 ∧ (a.2.2.1 : Int) = b.2.2.1 ∧ a.2.2.2.1 = b.2.2.2.1 := by
  obtain ⟨a0, a1, a2, a3, _⟩ := a
  obtain ⟨b0, b1, b2, b3, _⟩ := b
  simp
theorem impl_equalPlayers_ok (x y : DT117) (h : BP x) : ∃ r, Ev (fun k => impl_equalPlayers k x y) r ∧ (r = true ↔ x = y) := by
  rw [plEq]
  by_cases c0 : (x.1 : Int) = y.1
  · by_cases c1 : (x.2.1 : Int) = y.2.1
    · by_cases c2 : (x.2.2.1 : Int) = y.2.2.1
      · obtain ⟨r, er, hr⟩ := slices_Equal___int_int_ok x.2.2.2.1 y.2.2.2.1 h
        exact ⟨decide (r = true), Ev.eq (fun k => impl_equalPlayers_eq k x y) (Ev.pos c0 (Ev.pos c1 (Ev.pos c2 (Ev.bind er Ev.ret)))), by simp [hr, c0, c1, c2]⟩
      · exact ⟨false, Ev.eq (fun k => impl_equalPlayers_eq k x y) (Ev.pos c0 (Ev.pos c1 (Ev.neg c2 Ev.ret))), by simp [c2]⟩
    · exact ⟨false, Ev.eq (fun k => impl_equalPlayers_eq k x y) (Ev.pos c0 (Ev.neg c1 Ev.ret)), by simp [c1]⟩
  · exact ⟨false, Ev.eq (fun k => impl_equalPlayers_eq k x y) (Ev.neg c0 Ev.ret), by simp [c0]⟩
theorem slices_EqualFunc_impl_Player_116_ok (x y : List DT117) (h : BPs x) : ∃ r, Ev (fun k => slices_EqualFunc_impl_Player_116 k x y) r ∧ (r = true ↔ x = y) := by
  have hL := h.1
  by_cases hl : x.length = y.length
  · have hel : ∀ i, i < x.length → ∃ r, Ev (fun k => impl_equalPlayers k (rd T117 x (i : Int)) (rd T117 y (i : Int))) r ∧ (r = true ↔ rd T117 x (i : Int) = rd T117 y (i : Int)) := fun i hi => impl_equalPlayers_ok _ _ (h.2 i hi)
    obtain ⟨r, er, hr⟩ := loop_all (F := fun i k m => slices_EqualFunc_impl_Player_116.l0 k m y x ((List.length x : Nat) : Int) i) (n := x.length) (fun i => rd T117 x (i : Int) = rd T117 y (i : Int)) (E2.eq (fun k m => slices_EqualFunc_impl_Player_116.l0_eq k m y x _ _) (E2.neg (by omega) E2.ret)) (fun i hi hq v e => by
      obtain ⟨r, er, hr⟩ := hel i hi
      refine E2.eq (fun k m => slices_EqualFunc_impl_Player_116.l0_eq k m y x _ _) (E2.pos (by omega) (E2.pos (by omega) (E2.pos (by omega) (E2.pos (by omega) (E2.pos (by omega) (E2.bind er (E2.neg (by simp [hr.2 hq]) ?_)))))))
      rw [wrapS (by omega)]; exact e) (fun i hi hq => by
      obtain ⟨r, er, hr⟩ := hel i hi
      exact E2.eq (fun k m => slices_EqualFunc_impl_Player_116.l0_eq k m y x _ _) (E2.pos (by omega) (E2.pos (by omega) (E2.pos (by omega) (E2.pos (by omega) (E2.pos (by omega) (E2.bind er (E2.pos (fun c => hq (hr.1 c)) E2.ret))))))))
    exact ⟨r, Ev.eq (fun k => slices_EqualFunc_impl_Player_116_eq k x y) (Ev.neg (by omega) (Ev.loop (f := fun k m => slices_EqualFunc_impl_Player_116.l0 k m y x ((List.length x : Nat) : Int) 0) er)), hr.trans (list_eq_iff (t := T117) hl)⟩
  · exact ⟨false, Ev.eq (fun k => slices_EqualFunc_impl_Player_116_eq k x y) (Ev.pos (by omega) Ev.ret), by simp; rintro rfl; exact hl rfl⟩
theorem spec_l33Players_ok (x y : List DT117) (h : BPs x) : ∃ r, Ev (fun k => spec_l33Players k x y) r ∧ (r = true ↔ x = y) := by
  have hL := h.1
  by_cases hl : x.length = y.length
  · have hel : ∀ i, i < x.length → ∃ r, Ev (fun k => spec_EqualInts k (rd T117 x (i : Int)).2.2.2.1 (rd T117 y (i : Int)).2.2.2.1) r ∧ (r = true ↔ (rd T117 x (i : Int)).2.2.2.1 = (rd T117 y (i : Int)).2.2.2.1) := fun i hi => spec_EqualInts_ok _ _ (h.2 i hi)
    obtain ⟨r, er, hr⟩ := loop_all (F := fun i k m => spec_l33Players.l0 k m x y i) (n := x.length) (fun i => rd T117 x (i : Int) = rd T117 y (i : Int)) (E2.eq (fun k m => spec_l33Players.l0_eq k m x y _) (E2.neg (by omega) E2.ret)) (fun i hi hq v e => by
      obtain ⟨r, er, hr⟩ := hel i hi
      have hq' := plEq.1 hq
      refine E2.eq (fun k m => spec_l33Players.l0_eq k m x y _) (E2.pos (by omega) (E2.pos (by omega) (E2.pos (by omega) (E2.pos (by omega) (E2.pos (by omega) (E2.neg (fun c => c hq'.1) (E2.pos (by omega) (E2.pos (by omega) (E2.pos (by omega) (E2.pos (by omega) (E2.neg (fun c => c hq'.2.1) (E2.pos (by omega) (E2.pos (by omega) (E2.pos (by omega) (E2.pos (by omega) (E2.neg (fun c => c hq'.2.2.1) (E2.pos (by omega) (E2.pos (by omega) (E2.pos (by omega) (E2.pos (by omega) (E2.bind er (E2.neg (by simp [hr.2 hq'.2.2.2]) ?_))))))))))))))))))))))
      rw [wrapS (by omega)]; exact e) (fun i hi hq => by
      obtain ⟨r, er, hr⟩ := hel i hi
      by_cases c0 : ((rd T117 x (i : Int)).1 : Int) = (rd T117 y (i : Int)).1
      · by_cases c1 : ((rd T117 x (i : Int)).2.1 : Int) = (rd T117 y (i : Int)).2.1
        · by_cases c2 : ((rd T117 x (i : Int)).2.2.1 : Int) = (rd T117 y (i : Int)).2.2.1
          · exact E2.eq (fun k m => spec_l33Players.l0_eq k m x y _) (E2.pos (by omega) (E2.pos (by omega) (E2.pos (by omega) (E2.pos (by omega) (E2.pos (by omega) (E2.neg (fun c => c c0) (E2.pos (by omega) (E2.pos (by omega) (E2.pos (by omega) (E2.pos (by omega) (E2.neg (fun c => c c1) (E2.pos (by omega) (E2.pos (by omega) (E2.pos (by omega) (E2.pos (by omega) (E2.neg (fun c => c c2) (E2.pos (by omega) (E2.pos (by omega) (E2.pos (by omega) (E2.pos (by omega) (E2.bind er (E2.pos (fun c => hq (plEq.2 ⟨c0, c1, c2, hr.1 c⟩)) E2.ret))))))))))))))))))))))
          · exact E2.eq (fun k m => spec_l33Players.l0_eq k m x y _) (E2.pos (by omega) (E2.pos (by omega) (E2.pos (by omega) (E2.pos (by omega) (E2.pos (by omega) (E2.neg (fun c => c c0) (E2.pos (by omega) (E2.pos (by omega) (E2.pos (by omega) (E2.pos (by omega) (E2.neg (fun c => c c1) (E2.pos (by omega) (E2.pos (by omega) (E2.pos (by omega) (E2.pos (by omega) (E2.pos c2 E2.ret))))))))))))))))
        · exact E2.eq (fun k m => spec_l33Players.l0_eq k m x y _) (E2.pos (by omega) (E2.pos (by omega) (E2.pos (by omega) (E2.pos (by omega) (E2.pos (by omega) (E2.neg (fun c => c c0) (E2.pos (by omega) (E2.pos (by omega) (E2.pos (by omega) (E2.pos (by omega) (E2.pos c1 E2.ret)))))))))))
      · exact E2.eq (fun k m => spec_l33Players.l0_eq k m x y _) (E2.pos (by omega) (E2.pos (by omega) (E2.pos (by omega) (E2.pos (by omega) (E2.pos (by omega) (E2.pos c0 E2.ret)))))))
    exact ⟨r, Ev.eq (fun k => spec_l33Players_eq k x y) (Ev.neg (by omega) (Ev.loop (f := fun k m => spec_l33Players.l0 k m x y 0) er)), hr.trans (list_eq_iff (t := T117) hl)⟩
  · exact ⟨false, Ev.eq (fun k => spec_l33Players_eq k x y) (Ev.pos (by omega) Ev.ret), by simp; rintro rfl; exact hl rfl⟩
theorem spec_l33Lists_l1 (x y : DT71) (h : BO x) (z : Int) (hl : x.2.2.2.2.2.2.1.length = y.2.2.2.2.2.2.1.length) : ∃ r, E2 (fun k m => spec_l33Lists.l1 k m z 0 x.1 x.2.1.1 x.2.1.2.1 x.2.2.1 x.2.2.2.1 x.2.2.2.2.1 x.2.2.2.2.2.1 x.2.2.2.2.2.2.1 x.2.2.2.2.2.2.2.1 x.2.2.2.2.2.2.2.2.1 y.1 y.2.1.1 y.2.1.2.1 y.2.2.1 y.2.2.2.1 y.2.2.2.2.1 y.2.2.2.2.2.1 y.2.2.2.2.2.2.1 y.2.2.2.2.2.2.2.1 y.2.2.2.2.2.2.2.2.1) r ∧ (r = true ↔ x.2.2.2.2.2.2.1 = y.2.2.2.2.2.2.1) := by
  have hL := h.2.2.2.2.2
  obtain ⟨r, er, hr⟩ := loop_all (F := fun i k m => spec_l33Lists.l1 k m z i x.1 x.2.1.1 x.2.1.2.1 x.2.2.1 x.2.2.2.1 x.2.2.2.2.1 x.2.2.2.2.2.1 x.2.2.2.2.2.2.1 x.2.2.2.2.2.2.2.1 x.2.2.2.2.2.2.2.2.1 y.1 y.2.1.1 y.2.1.2.1 y.2.2.1 y.2.2.2.1 y.2.2.2.2.1 y.2.2.2.2.2.1 y.2.2.2.2.2.2.1 y.2.2.2.2.2.2.2.1 y.2.2.2.2.2.2.2.2.1) (n := x.2.2.2.2.2.2.1.length) (fun i => rd T65 x.2.2.2.2.2.2.1 (i : Int) = rd T65 y.2.2.2.2.2.2.1 (i : Int)) (E2.eq (fun k m => spec_l33Lists.l1_eq k m z _ x.1 x.2.1.1 x.2.1.2.1 x.2.2.1 x.2.2.2.1 x.2.2.2.2.1 x.2.2.2.2.2.1 x.2.2.2.2.2.2.1 x.2.2.2.2.2.2.2.1 x.2.2.2.2.2.2.2.2.1 y.1 y.2.1.1 y.2.1.2.1 y.2.2.1 y.2.2.2.1 y.2.2.2.2.1 y.2.2.2.2.2.1 y.2.2.2.2.2.2.1 y.2.2.2.2.2.2.2.1 y.2.2.2.2.2.2.2.2.1) (E2.neg (by omega) E2.ret)) (fun i hi hq v e => by
    refine E2.eq (fun k m => spec_l33Lists.l1_eq k m z _ x.1 x.2.1.1 x.2.1.2.1 x.2.2.1 x.2.2.2.1 x.2.2.2.2.1 x.2.2.2.2.2.1 x.2.2.2.2.2.2.1 x.2.2.2.2.2.2.2.1 x.2.2.2.2.2.2.2.2.1 y.1 y.2.1.1 y.2.1.2.1 y.2.2.1 y.2.2.2.1 y.2.2.2.2.1 y.2.2.2.2.2.1 y.2.2.2.2.2.2.1 y.2.2.2.2.2.2.2.1 y.2.2.2.2.2.2.2.2.1) (E2.pos (by omega) (E2.pos (by omega) (E2.pos (by omega) (E2.pos (by omega) (E2.pos (by omega) (E2.neg (by rw [hq]; simp) ?_))))))
    rw [wrapS (by omega)]; exact e) (fun i hi hq => E2.eq (fun k m => spec_l33Lists.l1_eq k m z _ x.1 x.2.1.1 x.2.1.2.1 x.2.2.1 x.2.2.2.1 x.2.2.2.2.1 x.2.2.2.2.2.1 x.2.2.2.2.2.2.1 x.2.2.2.2.2.2.2.1 x.2.2.2.2.2.2.2.2.1 y.1 y.2.1.1 y.2.1.2.1 y.2.2.1 y.2.2.2.1 y.2.2.2.2.1 y.2.2.2.2.2.1 y.2.2.2.2.2.2.1 y.2.2.2.2.2.2.2.1 y.2.2.2.2.2.2.2.2.1) (E2.pos (by omega) (E2.pos (by omega) (E2.pos (by omega) (E2.pos (by omega) (E2.pos (by omega) (E2.pos (fun c => hq (extT65 c)) E2.ret)))))))
  exact ⟨r, er, hr.trans (list_eq_iff (t := T65) hl)⟩
theorem spec_l33Lists_ok (x y : DT71) (h : BO x) : ∃ r, Ev (fun k => spec_l33Lists k x y) r ∧ (r = true ↔ x.2.2.1 = y.2.2.1 ∧ x.2.2.2.2.2.2.1 = y.2.2.2.2.2.2.1) := by
  have hL := h.2.1
  by_cases hl : x.2.2.1.length = y.2.2.1.length
  · by_cases hl2 : x.2.2.2.2.2.2.1.length = y.2.2.2.2.2.2.1.length
    · obtain ⟨r1, er1, hr1⟩ := spec_l33Lists_l1 x y h (x.2.2.1.length : Int) hl2
      have key : ∀ d i, i + d = x.2.2.1.length → ∃ r, E2 (fun k m => spec_l33Lists.l0 k m (i : Int) x.1 x.2.1.1 x.2.1.2.1 x.2.2.1 x.2.2.2.1 x.2.2.2.2.1 x.2.2.2.2.2.1 x.2.2.2.2.2.2.1 x.2.2.2.2.2.2.2.1 x.2.2.2.2.2.2.2.2.1 y.1 y.2.1.1 y.2.1.2.1 y.2.2.1 y.2.2.2.1 y.2.2.2.2.1 y.2.2.2.2.2.1 y.2.2.2.2.2.2.1 y.2.2.2.2.2.2.2.1 y.2.2.2.2.2.2.2.2.1) r ∧ (r = true ↔ (∀ j, i ≤ j → j < x.2.2.1.length → rd T65 x.2.2.1 (j : Int) = rd T65 y.2.2.1 (j : Int)) ∧ x.2.2.2.2.2.2.1 = y.2.2.2.2.2.2.1) := by
        intro d
        induction d with
        | zero =>
          intro i hi
          have hi : i = x.2.2.1.length := by omega
          subst hi
          exact ⟨r1, E2.eq (fun k m => spec_l33Lists.l0_eq k m _ x.1 x.2.1.1 x.2.1.2.1 x.2.2.1 x.2.2.2.1 x.2.2.2.2.1 x.2.2.2.2.2.1 x.2.2.2.2.2.2.1 x.2.2.2.2.2.2.2.1 x.2.2.2.2.2.2.2.2.1 y.1 y.2.1.1 y.2.1.2.1 y.2.2.1 y.2.2.2.1 y.2.2.2.2.1 y.2.2.2.2.2.1 y.2.2.2.2.2.2.1 y.2.2.2.2.2.2.2.1 y.2.2.2.2.2.2.2.2.1) (E2.neg (by omega) (E2.of (Ev.loop (f := fun k m => spec_l33Lists.l1 k m (x.2.2.1.length : Int) 0 x.1 x.2.1.1 x.2.1.2.1 x.2.2.1 x.2.2.2.1 x.2.2.2.2.1 x.2.2.2.2.2.1 x.2.2.2.2.2.2.1 x.2.2.2.2.2.2.2.1 x.2.2.2.2.2.2.2.2.1 y.1 y.2.1.1 y.2.1.2.1 y.2.2.1 y.2.2.2.1 y.2.2.2.2.1 y.2.2.2.2.2.1 y.2.2.2.2.2.2.1 y.2.2.2.2.2.2.2.1 y.2.2.2.2.2.2.2.2.1) er1))), hr1.trans ⟨fun e => ⟨fun j _ _ => by omega, e⟩, fun e => e.2⟩⟩
        | succ d ih =>
          intro i hi
          obtain ⟨r, er, hr⟩ := ih (i + 1) (by omega)
          by_cases hq : rd T65 x.2.2.1 (i : Int) = rd T65 y.2.2.1 (i : Int)
          · refine ⟨r, E2.eq (fun k m => spec_l33Lists.l0_eq k m _ x.1 x.2.1.1 x.2.1.2.1 x.2.2.1 x.2.2.2.1 x.2.2.2.2.1 x.2.2.2.2.2.1 x.2.2.2.2.2.2.1 x.2.2.2.2.2.2.2.1 x.2.2.2.2.2.2.2.2.1 y.1 y.2.1.1 y.2.1.2.1 y.2.2.1 y.2.2.2.1 y.2.2.2.2.1 y.2.2.2.2.2.1 y.2.2.2.2.2.2.1 y.2.2.2.2.2.2.2.1 y.2.2.2.2.2.2.2.2.1) (E2.pos (by omega) (E2.pos (by omega) (E2.pos (by omega) (E2.pos (by omega) (E2.pos (by omega) (E2.neg (by rw [hq]; simp) ?_)))))), hr.trans (and_congr ⟨fun h j h1 h2 => ?_, fun h j h1 h2 => h j (by omega) h2⟩ Iff.rfl)⟩
            · rw [wrapS (by omega)]; exact er
            · by_cases hj : j = i
              · subst hj; exact hq
              · exact h j (by omega) h2
          · exact ⟨false, E2.eq (fun k m => spec_l33Lists.l0_eq k m _ x.1 x.2.1.1 x.2.1.2.1 x.2.2.1 x.2.2.2.1 x.2.2.2.2.1 x.2.2.2.2.2.1 x.2.2.2.2.2.2.1 x.2.2.2.2.2.2.2.1 x.2.2.2.2.2.2.2.2.1 y.1 y.2.1.1 y.2.1.2.1 y.2.2.1 y.2.2.2.1 y.2.2.2.2.1 y.2.2.2.2.2.1 y.2.2.2.2.2.2.1 y.2.2.2.2.2.2.2.1 y.2.2.2.2.2.2.2.2.1) (E2.pos (by omega) (E2.pos (by omega) (E2.pos (by omega) (E2.pos (by omega) (E2.pos (by omega) (E2.pos (fun c => hq (extT65 c)) E2.ret)))))), by simp only [Bool.false_eq_true, false_iff]; exact fun c => hq (c.1 i (Nat.le_refl _) (by omega))⟩
      obtain ⟨r, er, hr⟩ := key x.2.2.1.length 0 (by omega)
      refine ⟨r, Ev.eq (fun k => spec_l33Lists_eq k x y) (Ev.neg (by omega) (Ev.neg (by omega) (Ev.loop (f := fun k m => spec_l33Lists.l0 k m 0 x.1 x.2.1.1 x.2.1.2.1 x.2.2.1 x.2.2.2.1 x.2.2.2.2.1 x.2.2.2.2.2.1 x.2.2.2.2.2.2.1 x.2.2.2.2.2.2.2.1 x.2.2.2.2.2.2.2.2.1 y.1 y.2.1.1 y.2.1.2.1 y.2.2.1 y.2.2.2.1 y.2.2.2.2.1 y.2.2.2.2.2.1 y.2.2.2.2.2.2.1 y.2.2.2.2.2.2.2.1 y.2.2.2.2.2.2.2.2.1) er))), hr.trans (and_congr ⟨fun h => (list_eq_iff (t := T65) hl).1 fun i hi => h i (Nat.zero_le _) hi, fun h j _ hj => (list_eq_iff (t := T65) hl).2 h j hj⟩ Iff.rfl)⟩
    · exact ⟨false, Ev.eq (fun k => spec_l33Lists_eq k x y) (Ev.neg (by omega) (Ev.pos (by omega) Ev.ret)), by simp only [Bool.false_eq_true, false_iff]; exact fun c => hl2 (by rw [c.2])⟩
  · exact ⟨false, Ev.eq (fun k => spec_l33Lists_eq k x y) (Ev.pos (by omega) Ev.ret), by simp only [Bool.false_eq_true, false_iff]; exact fun c => hl (by rw [c.1])⟩
/-- Two orchestras are one and the same. -/
def Same (x y : DT71) : Prop := x.1 = y.1 ∧ ((x.2.1.1 : Int) = y.2.1.1 ∧ (x.2.1.2.1 : Int) = y.2.1.2.1) ∧ x.2.2.1 = y.2.2.1 ∧ x.2.2.2.1 = y.2.2.2.1 ∧ x.2.2.2.2.1 = y.2.2.2.2.1 ∧ x.2.2.2.2.2.1 = y.2.2.2.2.2.1 ∧ x.2.2.2.2.2.2.1 = y.2.2.2.2.2.2.1 ∧ (x.2.2.2.2.2.2.2.1 : Int) = y.2.2.2.2.2.2.2.1 ∧ (x.2.2.2.2.2.2.2.2.1 : Int) = y.2.2.2.2.2.2.2.2.1
theorem ev_and {f : Nat → Option Bool} {g : Nat → Bool → Option Bool} {p q : Prop} (h : ∃ r, Ev f r ∧ (r = true ↔ p)) (e : p → ∃ r, Ev (fun k => g k true) r ∧ (r = true ↔ q)) : ∃ r, Ev (fun k => (f k).bind fun r => if r = true then g k r else some false) r ∧ (r = true ↔ p ∧ q) := by
  obtain ⟨r, er, hr⟩ := h
  cases r with
  | true =>
    have hp := hr.1 rfl
    obtain ⟨r2, e2, h2⟩ := e hp
    exact ⟨r2, Ev.bind er (Ev.pos rfl e2), h2.trans ⟨fun h => ⟨hp, h⟩, fun h => h.2⟩⟩
  | false => exact ⟨false, Ev.bind er (Ev.neg (by simp) Ev.ret), by simp only [Bool.false_eq_true, false_iff]; exact fun c => Bool.false_ne_true (hr.2 c.1)⟩
theorem ev_if {p q : Prop} [Decidable p] {f : Nat → Option Bool} (e : p → ∃ r, Ev f r ∧ (r = true ↔ q)) : ∃ r, Ev (fun k => if p then f k else some false) r ∧ (r = true ↔ p ∧ q) := by
  by_cases c : p
  · obtain ⟨r, er, hr⟩ := e c
    exact ⟨r, Ev.pos c er, hr.trans ⟨fun h => ⟨c, h⟩, fun h => h.2⟩⟩
  · exact ⟨false, Ev.neg c Ev.ret, by simp [c]⟩
theorem ev_same {F f : Nat → Option Bool} {p q : Prop} (h : ∀ k, F (k + 1) = f k) (e : ∃ r, Ev f r ∧ (r = true ↔ p)) (hpq : p ↔ q) : ∃ r, Ev F r ∧ (r = true ↔ q) := by
  obtain ⟨r, er, hr⟩ := e
  exact ⟨r, Ev.eq h er, hr.trans hpq⟩
theorem spec_ok (x y : DT71) (h : BO x) : ∃ r, Ev (fun k => spec_EqualOrchestras k x y) r ∧ (r = true ↔ Same x y) := by
  refine ev_same (fun k => spec_EqualOrchestras_eq k x y) (ev_if fun _ => ev_if fun _ => ev_if fun _ => ev_and (spec_EqualScores_ok _ _ h.1) fun _ => ev_and (spec_EqualInts_ok _ _ h.2.2.2.1) fun _ => ev_and (spec_EqualMarks_ok _ _ h.2.2.2.2.1) fun _ => ev_and (q := x.2.2.1 = y.2.2.1 ∧ x.2.2.2.2.2.2.1 = y.2.2.2.2.2.2.1) (spec_l33Players_ok _ _ h.2.2.1) fun _ => ?_) ?_
  · obtain ⟨r, er, hr⟩ := spec_l33Lists_ok x y h
    exact ⟨decide (r = true), Ev.bind er Ev.ret, by simpa using hr⟩
  · unfold Same
    constructor
    · rintro ⟨h1, h2, h3, h4, h5, h6, h7, h8, h9⟩
      exact ⟨h4, h1, h8, h7, h5, h6, h9, h2, h3⟩
    · rintro ⟨h4, h1, h8, h7, h5, h6, h9, h2, h3⟩
      exact ⟨h1, h2, h3, h4, h5, h6, h7, h8, h9⟩
theorem impl_ok (x y : DT71) (h : BO x) : ∃ r, Ev (fun k => impl_EqualOrchestras k x y) r ∧ (r = true ↔ Same x y) := by
  refine ev_same (fun k => impl_EqualOrchestras_eq k x y) (ev_and (slices_Equal_impl_Event_ok _ _ h.1) fun _ => ev_if fun _ => ev_and (slices_Equal_impl_Tempo_ok _ _ h.2.1) fun _ => ev_and (slices_EqualFunc_impl_Player_116_ok _ _ h.2.2.1) fun _ => ev_and (slices_Equal___int_int_ok _ _ h.2.2.2.1) fun _ => ev_and (slices_Equal_impl_Mark_ok _ _ h.2.2.2.2.1) fun _ => ev_and (slices_Equal_impl_Letter_ok _ _ h.2.2.2.2.2) fun _ => ev_if (q := (x.2.2.2.2.2.2.2.2.1 : Int) = y.2.2.2.2.2.2.2.2.1) fun _ => ?_) ?_
  · exact ⟨_, Ev.ret, by simp⟩
  · unfold Same
    exact Iff.rfl
theorem pure (a0 a1 : DT71) (w0 : Wd T71 a0) (w1 : Wd T71 a1) : ∃ k, laws_FnExactEqualOrchestras k a0 a1 = some true := by
  refine Ev.at (f := fun k => laws_FnExactEqualOrchestras k a0 a1) ?_
  obtain ⟨r0, e0, h0⟩ := laws_szOrchestra_ok a0 w0 1048576 (by omega) (by omega)
  by_cases c0 : r0 < 0
  · exact Ev.eq (fun k => laws_FnExactEqualOrchestras_eq k a0 a1) (Ev.bind e0 (Ev.pos c0 Ev.ret))
  replace h0 := h0.resolve_left c0
  obtain ⟨r1, e1, h1⟩ := laws_szOrchestra_ok a1 w1 r0 (by omega) (by omega)
  by_cases c1 : r1 < 0
  · exact Ev.eq (fun k => laws_FnExactEqualOrchestras_eq k a0 a1) (Ev.bind e0 (Ev.neg c0 (Ev.bind e1 (Ev.pos c1 Ev.ret))))
  replace h1 := h1.resolve_left c1
  have b0 := h0.2.2
  have b1 := h1.2.2
  obtain ⟨r, er, hr⟩ := spec_ok a0 a1 b0
  obtain ⟨q, eq, hq⟩ := impl_ok a0 a1 b0
  have hrq : q = r := by rw [Bool.eq_iff_iff]; exact hq.trans hr.symm
  subst hrq
  exact Ev.eq (fun k => laws_FnExactEqualOrchestras_eq k a0 a1) (Ev.bind e0 (Ev.neg c0 (Ev.bind e1 (Ev.neg c1 (Ev.bind (toOrchestra_id _ b0) (Ev.bind (toOrchestra_id _ b1) (Ev.bind er (Ev.bind (toOrchestra_id _ b0) (Ev.bind (toOrchestra_id _ b1) (Ev.bind eq (Ev.neg (by simp) (Ev.bind (toOrchestra_id _ b0) (Ev.bind (eqOrchestra_self _ b0) (Ev.neg (by simp) (Ev.bind (toOrchestra_id _ b1) (Ev.bind (eqOrchestra_self _ b1) (Ev.neg (by simp) Ev.ret)))))))))))))))))
end Go.QFnExactEqualOrchestras
