/- The law's helpers. No condition. -/
import Derived.Test.YtejaegogaaiblaaQFnExactBestOrder
import Derived.Test.YtejaegogaaiblaaPur
set_option linter.unusedVariables false
set_option linter.unusedSimpArgs false
open Go Go.Flat
namespace Go.QFnExactBestOrder
theorem laws_szIntS_ok (x : (List Int)) (w : Wd (.list (.int .i64)) x) (n : Int) (hn : 0 ≤ n) (hm : n ≤ 1048576) : ∃ r, Ev (fun k => laws_szIntS k x n) r ∧ (r < 0 ∨ 0 ≤ r ∧ r ≤ n ∧ Bk (.list (.int .i64)) x) := by
  have hl : x.length ≤ 9223372036854775807 := w.1
  by_cases c : n - (x.length : Int) < 0
  · exact ⟨-1, Ev.eq (fun k => laws_szIntS_eq k x n) (Ev.pos (by rw [wrapI (by omega) (by omega)]; omega) Ev.ret), .inl (by omega)⟩
  · exact ⟨n - x.length, Ev.eq (fun k => laws_szIntS_eq k x n) (Ev.neg (by rw [wrapI (by omega) (by omega)]; omega) (Ev.ret.val (wrapI (by omega) (by omega)))), .inr ⟨by omega, by omega, show Bk (.list (.int .i64)) x from bk_list (by omega) fun i hi => bk_flat _ rfl⟩⟩
theorem laws_szWork_ok (x : DT31) (w : Wd T31 x) (n : Int) (hn : 0 ≤ n) (hm : n ≤ 1048576) : ∃ r, Ev (fun k => laws_szWork k x n) r ∧ (r < 0 ∨ 0 ≤ r ∧ r ≤ n ∧ Bk T31 x) := by
  obtain ⟨r0, e0, h0⟩ := laws_szIntS_ok x.2.1 w.2.1 n (by omega) (by omega)
  by_cases c0 : r0 < 0
  · exact ⟨-1, Ev.eq (fun k => laws_szWork_eq k x n) (Ev.bind e0 (Ev.pos c0 Ev.ret)), .inl (by omega)⟩
  replace h0 := h0.resolve_left c0
  exact ⟨r0, Ev.eq (fun k => laws_szWork_eq k x n) (Ev.bind e0 (Ev.neg c0 (Ev.ret))), .inr ⟨by omega, by omega, bk_flat _ rfl, h0.2.2, trivial⟩⟩
theorem laws_szWorkS_ok (x : (List DT31)) (w : Wd (.dlist T31) x) (n : Int) (hn : 0 ≤ n) (hm : n ≤ 1048576) : ∃ r, Ev (fun k => laws_szWorkS k x n) r ∧ (r < 0 ∨ 0 ≤ r ∧ r ≤ n ∧ Bk (.dlist T31) x) := by
  have hl : x.length ≤ 9223372036854775807 := w.1
  by_cases c : n - (x.length : Int) < 0
  · exact ⟨-1, Ev.eq (fun k => laws_szWorkS_eq k x n) (Ev.pos (by rw [wrapI (by omega) (by omega)]; omega) Ev.ret), .inl (by omega)⟩
  · obtain ⟨r, e, h⟩ := loop_sz (t := T31) (x := x) (F := fun i n k m => laws_szWorkS.l0 k m x n i) (fun n => E2.eq (fun k m => laws_szWorkS.l0_eq k m x n _) (E2.neg (by omega) E2.ret)) (fun i hi n hn hm => by
      obtain ⟨r0, e0, h0⟩ := laws_szWork_ok (rd T31 x (i : Int)) (wd_rd w hi) n hn hm
      by_cases c : r0 < 0
      · exact .inl ⟨-1, by omega, E2.eq (fun k m => laws_szWorkS.l0_eq k m x n _) (E2.pos (by omega) (E2.pos (by omega) (E2.pos (by omega) (E2.bind e0 (E2.pos c E2.ret)))))⟩
      · have h0 := h0.resolve_left c
        refine .inr ⟨r0, h0.1, h0.2.1, h0.2.2, fun v e => E2.eq (fun k m => laws_szWorkS.l0_eq k m x n _) (E2.pos (by omega) (E2.pos (by omega) (E2.pos (by omega) (E2.bind e0 (E2.neg c ?_)))))⟩
        rw [wrapS (by omega)]; exact e) (n - x.length) (by omega) (by omega)
    refine ⟨r, Ev.eq (fun k => laws_szWorkS_eq k x n) (Ev.neg (by rw [wrapI (by omega) (by omega)]; omega) (Ev.loop (f := fun k m => laws_szWorkS.l0 k m x (IntKind.wrap .i64 (n - ((List.length x : Nat) : Int))) 0) ?_)), h.imp id fun h => ⟨h.1, by omega, show Bk (.list T31) x from bk_list (by omega) h.2.2⟩⟩
    rw [wrapI (by omega) (by omega)]
    exact e
theorem laws_toIntS_id (x : (List Int)) (h : Bk (.list (.int .i64)) x) : Ev (fun k => laws_toIntS k x) x := by
  have hL : x.length ≤ 1048576 := h.1
  refine Ev.eq (fun k => laws_toIntS_eq k x) (Ev.pos (by omega) (Ev.pos (by omega) (Ev.pos (by omega) (Ev.loop (f := fun k m => laws_toIntS.l0 k m x 0 (List.replicate (Int.toNat ((List.length x : Nat) : Int)) (Ty.dflt (.int .i64)))) ?_))))
  have key := loop_map (t := (.int .i64)) (u := (.int .i64)) (F := fun i y k m => laws_toIntS.l0 k m x i y) (x := x) (fun a => a) (fun y => E2.eq (fun k m => laws_toIntS.l0_eq k m x _ y) (E2.neg (by omega) E2.ret)) (fun i y hi hy v e => by
    refine E2.eq (fun k m => laws_toIntS.l0_eq k m x _ y) (E2.pos (by omega) (E2.pos (by omega) (E2.pos (by omega) (E2.pos (by omega) (E2.pos (by omega) ?_)))))
    rw [wrapS (by omega), Int.toNat_natCast]; exact e) (List.replicate (Int.toNat ((List.length x : Nat) : Int)) (Ty.dflt (.int .i64))) (by simp)
  exact key.val (by simp)
theorem laws_toWork_id (x : DT31) (h : Bk T31 x) : Ev (fun k => laws_toWork k x) x := Ev.eq (fun k => laws_toWork_eq k x) (Ev.bind (laws_toIntS_id _ h.2.1) Ev.ret)
theorem laws_toWorkS_id (x : (List DT31)) (h : Bk (.dlist T31) x) : Ev (fun k => laws_toWorkS k x) x := by
  have hL : x.length ≤ 1048576 := h.1
  refine Ev.eq (fun k => laws_toWorkS_eq k x) (Ev.pos (by omega) (Ev.pos (by omega) (Ev.pos (by omega) (Ev.loop (f := fun k m => laws_toWorkS.l0 k m x 0 (List.replicate (Int.toNat ((List.length x : Nat) : Int)) (Ty.dflt T31))) ?_))))
  have key := loop_map (t := T31) (u := T31) (F := fun i y k m => laws_toWorkS.l0 k m x i y) (x := x) (fun a => a) (fun y => E2.eq (fun k m => laws_toWorkS.l0_eq k m x _ y) (E2.neg (by omega) E2.ret)) (fun i y hi hy v e => by
    refine E2.eq (fun k m => laws_toWorkS.l0_eq k m x _ y) (E2.pos (by omega) (E2.pos (by omega) (E2.pos (by omega) (E2.bind (laws_toWork_id _ (bk_rd h hi)) (E2.pos (by omega) (E2.pos (by omega) ?_))))))
    rw [wrapS (by omega), Int.toNat_natCast]; exact e) (List.replicate (Int.toNat ((List.length x : Nat) : Int)) (Ty.dflt T31)) (by simp)
  exact key.val (by simp)
theorem laws_eqIntS_self (x : (List Int)) (h : Bk (.list (.int .i64)) x) : Ev (fun k => laws_eqIntS k x x) true := by
  have hL : x.length ≤ 1048576 := h.1
  refine Ev.eq (fun k => laws_eqIntS_eq k x x) (Ev.neg (by simp) (Ev.loop (f := fun k m => laws_eqIntS.l0 k m x x 0) ?_))
  obtain ⟨r, er, hr⟩ := loop_all (F := fun i k m => laws_eqIntS.l0 k m x x i) (n := x.length) (fun _ => True) (E2.eq (fun k m => laws_eqIntS.l0_eq k m x x _) (E2.neg (by omega) E2.ret)) (fun i hi _ v e => by
    refine E2.eq (fun k m => laws_eqIntS.l0_eq k m x x _) (E2.pos (by omega) (E2.pos (by omega) (E2.pos (by omega) (E2.pos (by omega) (E2.pos (by omega) (E2.neg (by simp) ?_))))))
    rw [wrapS (by omega)]; exact e) (fun i hi hq => (hq trivial).elim)
  exact er.val (hr.2 fun _ _ => trivial)
theorem laws_eqIntS_selfL (x : (List Int)) (hL : x.length ≤ 4194304) : Ev (fun k => laws_eqIntS k x x) true := by
  refine Ev.eq (fun k => laws_eqIntS_eq k x x) (Ev.neg (by simp) (Ev.loop (f := fun k m => laws_eqIntS.l0 k m x x 0) ?_))
  obtain ⟨r, er, hr⟩ := loop_all (F := fun i k m => laws_eqIntS.l0 k m x x i) (n := x.length) (fun _ => True) (E2.eq (fun k m => laws_eqIntS.l0_eq k m x x _) (E2.neg (by omega) E2.ret)) (fun i hi _ v e => by
    refine E2.eq (fun k m => laws_eqIntS.l0_eq k m x x _) (E2.pos (by omega) (E2.pos (by omega) (E2.pos (by omega) (E2.pos (by omega) (E2.pos (by omega) (E2.neg (by simp) ?_))))))
    rw [wrapS (by omega)]; exact e) (fun i hi hq => (hq trivial).elim)
  exact er.val (hr.2 fun _ _ => trivial)
theorem laws_eqWork_self (x : DT31) (h : Bk T31 x) : Ev (fun k => laws_eqWork k x x) true := Ev.eq (fun k => laws_eqWork_eq k x x) (Ev.neg (by simp) (Ev.bind (laws_eqIntS_self _ h.2.1) (Ev.neg (by simp) Ev.ret)))
theorem laws_eqWorkS_self (x : (List DT31)) (h : Bk (.dlist T31) x) : Ev (fun k => laws_eqWorkS k x x) true := by
  have hL : x.length ≤ 1048576 := h.1
  refine Ev.eq (fun k => laws_eqWorkS_eq k x x) (Ev.neg (by simp) (Ev.loop (f := fun k m => laws_eqWorkS.l0 k m x x 0) ?_))
  obtain ⟨r, er, hr⟩ := loop_all (F := fun i k m => laws_eqWorkS.l0 k m x x i) (n := x.length) (fun _ => True) (E2.eq (fun k m => laws_eqWorkS.l0_eq k m x x _) (E2.neg (by omega) E2.ret)) (fun i hi _ v e => by
    refine E2.eq (fun k m => laws_eqWorkS.l0_eq k m x x _) (E2.pos (by omega) (E2.pos (by omega) (E2.pos (by omega) (E2.pos (by omega) (E2.pos (by omega) (E2.bind (laws_eqWork_self _ (bk_rd h hi)) (E2.neg (by simp) ?_)))))))
    rw [wrapS (by omega)]; exact e) (fun i hi hq => (hq trivial).elim)
  exact er.val (hr.2 fun _ _ => trivial)
theorem laws_markIntS_ev (x : (List Int)) (h : x.length ≤ 4194304) (q0 : Int) (h0 : 0 ≤ q0) (h1 : q0 ≤ 8796093022208) : Ev (fun k => laws_markIntS k x q0) (q0 + 1 * x.length, marks (fun q : Int => (q : Int)) 1 x.length q0) := by
  refine Ev.eq (fun k => laws_markIntS_eq k x q0) (Ev.loop (f := fun k m => laws_markIntS.l0 k m q0 0 x) (loop_mark (t := (.int .i64)) (F := fun q i s k m => laws_markIntS.l0 k m q i s) (fun q : Int => (q : Int)) 1 17592186044416 (by omega) (fun q s hs => E2.eq (fun k m => laws_markIntS.l0_eq k m _ _ _) (E2.neg (by omega) E2.ret)) (fun i q s hi hs hq hB v e => ?_) q0 h0 (by omega)))
  · refine E2.eq (fun k m => laws_markIntS.l0_eq k m _ _ _) ?_
    have w1 : IntKind.wrap .i64 (q + 1) = q + 1 := (wrapI (by omega) (by omega)).trans (by omega)
    refine E2.pos (by first | omega | ((repeat rw [setAt_len]); omega)) ?_
    refine E2.pos (by first | omega | ((repeat rw [setAt_len]); omega)) ?_
    refine E2.pos (by first | omega | ((repeat rw [setAt_len]); omega)) ?_
    simp only [w1, wrapS (show i < 9223372036854775807 by omega)]
    exact e
def laws_markWorkS_mk : Int → DT31 → DT31 := fun q e => (q, (marks (fun q : Int => (q : Int)) 1 e.2.1.length (q + 1), ()))
def laws_markWorkS_cnt : DT31 → Int := fun e => (1 : Int) + 1 * ((e.2.1.length : Nat) : Int)
theorem laws_markWorkS_sum (x : (List DT31)) (h : Bk (.dlist T31) x) : sumG laws_markWorkS_cnt x ≤ 1099512676352 := by
  have h1 : sumG laws_markWorkS_cnt x ≤ 1048577 * (x.length : Int) := sumG_le fun e he => by
    have hb := h.2 e he
    have l0 : e.2.1.length ≤ 1048576 := hb.2.1.1
    show (1 : Int) + 1 * ((e.2.1.length : Nat) : Int) ≤ _
    omega
  have h2 : x.length ≤ 1048576 := h.1
  have h3 : (1048577 : Int) * (x.length : Int) ≤ 1048577 * 1048576 := Int.mul_le_mul_of_nonneg_left (by omega) (by omega)
  omega
theorem laws_markWorkS_ev (x : (List DT31)) (h : Bk (.dlist T31) x) (q0 : Int) (h0 : 0 ≤ q0) (h1 : q0 ≤ 2199023255552) : Ev (fun k => laws_markWorkS k x q0) (q0 + sumG laws_markWorkS_cnt x, marksG laws_markWorkS_mk laws_markWorkS_cnt x q0) := by
  have hs := laws_markWorkS_sum x h
  have h : Bk (.list T31) x := h
  refine Ev.eq (fun k => laws_markWorkS_eq k x q0) (Ev.loop (f := fun k m => laws_markWorkS.l0 k m q0 0 x) (loop_markG (t := T31) (F := fun q i s k m => laws_markWorkS.l0 k m q i s) laws_markWorkS_mk laws_markWorkS_cnt 4398046511104 (fun e _ => by show 0 ≤ (1 : Int) + 1 * ((e.2.1.length : Nat) : Int); omega) (fun q s hs => E2.eq (fun k m => laws_markWorkS.l0_eq k m _ _ _) (E2.neg (by omega) E2.ret)) (fun i q s hi hs hrd hq hB v ee => ?_) q0 h0 (by omega)))
  · have hL : x.length ≤ 1048576 := h.1
    have l0 : (rd T31 x (i : Int)).2.1.length ≤ 1048576 := (bk_rd h hi).2.1.1
    have hB : q + ((1 : Int) + 1 * (((rd T31 x (i : Int)).2.1.length : Nat) : Int)) ≤ 4398046511104 := hB
    have i0 : (0 : Int) ≤ (i : Int) := by omega
    have i1 : (i : Int) < ((s.length : Nat) : Int) := by omega
    refine E2.eq (fun k m => laws_markWorkS.l0_eq k m _ _ _) ?_
    have b0 : 0 ≤ q := hq
    have c0 : q ≤ 8796093022208 := by omega
    have w1 : IntKind.wrap .i64 (q + 1) = q + 1 := wrapK0 b0 c0
    try simp only [setAt_comp (show i < s.length by omega), rd_setAt (show i < s.length by omega), setAt_len, hrd, w1]
    refine E2.pos (by first | exact i0 | exact i1 | (rw [setAt_len]; exact i1)) ?_
    refine E2.pos (by first | exact i0 | exact i1 | (rw [setAt_len]; exact i1)) ?_
    refine E2.pos (by first | exact i0 | exact i1 | (rw [setAt_len]; exact i1)) ?_
    refine E2.pos (by first | exact i0 | exact i1 | (rw [setAt_len]; exact i1)) ?_
    refine E2.pos (by first | exact i0 | exact i1 | (rw [setAt_len]; exact i1)) ?_
    refine E2.bind (laws_markIntS_ev (rd T31 x (i : Int)).2.1 (Nat.le_trans l0 (by decide)) (q + 1) (by clear w1; omega) (by clear w1; omega)) ?_
    have b1 : 0 ≤ (q + 1 + 1 * (((rd T31 x (i : Int)).2.1.length : Nat) : Int)) := by clear w1; omega
    have c1 : (q + 1 + 1 * (((rd T31 x (i : Int)).2.1.length : Nat) : Int)) ≤ 8796093022208 := by clear w1; omega
    try simp only [setAt_comp (show i < s.length by omega), rd_setAt (show i < s.length by omega), setAt_len, hrd, w1]
    simp only [wrapS (show i < 9223372036854775807 by omega), setAt_eq, hrd]
    refine (congrArg (fun z => E2 z v) (funext fun k => funext fun m => ?_)).mp ee
    show laws_markWorkS.l0 k m (q + ((1 : Int) + 1 * (((rd T31 x (i : Int)).2.1.length : Nat) : Int))) _ (s.set i ((q, (marks (fun q : Int => (q : Int)) 1 (rd T31 x (i : Int)).2.1.length (q + 1), ())))) = _
    congr 1
    clear w1
    omega
theorem laws_heldIntS_ev (x : (List Int)) (h : x.length ≤ 4194304) (q0 : Int) (h0 : 0 ≤ q0) (h1 : q0 ≤ 8796093022208) (hx : x = marks (fun q : Int => (q : Int)) 1 x.length q0) : Ev (fun k => laws_heldIntS k x q0) (q0 + 1 * x.length) := by
  refine Ev.eq (fun k => laws_heldIntS_eq k x q0) (Ev.loop (f := fun k m => laws_heldIntS.l0 k m x q0 0) (loop_held (t := (.int .i64)) (F := fun q i k m => laws_heldIntS.l0 k m x q i) (fun q : Int => (q : Int)) 1 17592186044416 (by omega) (fun q => E2.eq (fun k m => laws_heldIntS.l0_eq k m _ _ _) (E2.neg (by omega) E2.ret)) (fun i q hi hq hB hr v e => ?_) q0 h0 (by omega) hx))
  refine E2.eq (fun k m => laws_heldIntS.l0_eq k m _ _ _) ?_
  have w1 : IntKind.wrap .i64 (q + 1) = q + 1 := (wrapI (by omega) (by omega)).trans (by omega)
  simp only [w1, wrapS (show i < 9223372036854775807 by omega), hr]
  refine E2.pos (by omega) ?_
  refine E2.pos (by omega) ?_
  refine E2.pos (by omega) ?_
  refine E2.neg (by simp) ?_
  exact e
end Go.QFnExactBestOrder
