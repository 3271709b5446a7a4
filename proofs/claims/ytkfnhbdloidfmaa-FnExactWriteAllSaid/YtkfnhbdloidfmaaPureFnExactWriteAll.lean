/- The plain half of FnExactWriteAll. No condition. -/
import Derived.Test.YtkfnhbdloidfmaaHFnExactWriteAll
set_option linter.unusedVariables false
set_option linter.unusedSimpArgs false
open Go Go.Flat
namespace Go.QFnExactWriteAll
def wr (e : DT135) : DT141 := (1, (0, (e, ((0, (0, ())), ((0, (0, (0, ([], ())))), ((0, (0, (0, (0, (0, ()))))), ()))))))
theorem wr_bk (e : DT135) : Bk T141 (wr e) := ⟨trivial, trivial, bk_flat _ rfl, bk_flat _ rfl, ⟨trivial, trivial, trivial, ⟨by simp [wr], by simp [wr]⟩, trivial⟩, bk_flat _ rfl, trivial⟩
theorem specWrite (l : List DT135) (hl : l.length ≤ 1048576) : Ev (fun k => spec_WriteAll k l) (l.map wr) := by
  have key : ∀ d (i : Nat) (s : List DT141), i + d = l.length → s.length = i → s ++ (l.drop i).map wr = l.map wr → E2 (fun k m => spec_WriteAll.l0 k m l (i : Int) s) (l.map wr) := by
    intro d
    induction d with
    | zero =>
      intro i s hi hs ht
      have hi : i = l.length := by omega
      subst hi
      have e : E2 (fun k m => spec_WriteAll.l0 k m l ((l.length : Nat) : Int) s) s := by
        refine E2.eq (fun k m => spec_WriteAll.l0_eq k m l _ s) ?_
        refine E2.neg (by omega) ?_
        exact E2.ret
      exact e.val (by rw [← ht]; simp)
    | succ d ih =>
      intro i s hi hs ht
      have hi' : i < l.length := by omega
      refine E2.eq (fun k m => spec_WriteAll.l0_eq k m l _ s) ?_
      refine E2.pos (by omega) ?_
      refine E2.pos (by omega) ?_
      refine E2.pos (by omega) ?_
      refine E2.pos (by simp only [List.length_cons, List.length_nil]; omega) ?_
      simp only [wrapS (show i < 9223372036854775807 by omega)]
      refine ih (i + 1) _ (by omega) (by simp; omega) ?_
      rw [← ht, List.drop_eq_getElem_cons hi', ← rd_at (t := T135) hi', List.map_cons, List.append_assoc]
      rfl
  exact Ev.eq (fun k => spec_WriteAll_eq k l) (Ev.loop (f := fun k m => spec_WriteAll.l0 k m l 0 []) (key l.length 0 [] (by omega) rfl (by simp)))
theorem implWrite (l : List DT135) (hl : l.length ≤ 1048576) : Ev (fun k => impl_WriteAll k l) (l.map wr) := by
  have key : ∀ d (i : Nat) (s : List DT141), i + d = l.length → s.length = i → s ++ (l.drop i).map wr = l.map wr → E2 (fun k m => impl_WriteAll.l0 k m l ((List.length l : Nat) : Int) (i : Int) s) (l.map wr) := by
    intro d
    induction d with
    | zero =>
      intro i s hi hs ht
      have hi : i = l.length := by omega
      subst hi
      have e : E2 (fun k m => impl_WriteAll.l0 k m l ((List.length l : Nat) : Int) ((l.length : Nat) : Int) s) s := by
        refine E2.eq (fun k m => impl_WriteAll.l0_eq k m l _ _ s) ?_
        refine E2.neg (by omega) ?_
        exact E2.ret
      exact e.val (by rw [← ht]; simp)
    | succ d ih =>
      intro i s hi hs ht
      have hi' : i < l.length := by omega
      refine E2.eq (fun k m => impl_WriteAll.l0_eq k m l _ _ s) ?_
      refine E2.pos (by omega) ?_
      refine E2.pos (by omega) ?_
      refine E2.pos (by omega) ?_
      refine E2.pos (by simp only [List.length_cons, List.length_nil]; omega) ?_
      simp only [wrapS (show i < 9223372036854775807 by omega)]
      refine ih (i + 1) _ (by omega) (by simp; omega) ?_
      rw [← ht, List.drop_eq_getElem_cons hi', ← rd_at (t := T135) hi', List.map_cons, List.append_assoc]
      rfl
  exact Ev.eq (fun k => impl_WriteAll_eq k l) (Ev.loop (f := fun k m => impl_WriteAll.l0 k m l ((List.length l : Nat) : Int) 0 []) (key l.length 0 [] (by omega) rfl (by simp)))
theorem pure (a0 : List DT135) (w0 : Wd (.list T135) a0) : ∃ k, laws_FnExactWriteAll k a0 = some true := by
  refine Ev.at (f := fun k => laws_FnExactWriteAll k a0) ?_
  obtain ⟨r0, e0, h0⟩ := laws_szEventS_ok a0 w0 1048576 (by omega) (by omega)
  by_cases c0 : r0 < 0
  · exact Ev.eq (fun k => laws_FnExactWriteAll_eq k a0) (Ev.bind e0 (Ev.pos c0 Ev.ret))
  replace h0 := h0.resolve_left c0
  have b0 := h0.2.2
  have bv : Bk (.dlist T141) (a0.map wr) := ⟨by rw [List.length_map]; exact b0.1, fun x hx => by obtain ⟨e, _, rfl⟩ := List.mem_map.1 hx; exact wr_bk e⟩
  have e1 := specWrite a0 b0.1
  have e2 := implWrite a0 b0.1
  have m1 := laws_markEventS_ev a0 b0.1 1 (by omega) (by omega)
  have m2 := laws_markHappeningS_ev _ bv 1 (by omega) (by omega)
  have hh := laws_heldHappeningS_ev _ bv 1 (by omega) (by omega)
  have hn : 0 ≤ sumG laws_markHappeningS_cnt (a0.map wr) := sumG_nonneg fun x _ => by show (0 : Int) ≤ 16 + 1 * _; omega
  exact Ev.eq (fun k => laws_FnExactWriteAll_eq k a0) (Ev.bind e0 (Ev.neg c0 (Ev.bind (laws_toEventS_id _ b0) (Ev.bind e1 (Ev.bind (laws_toEventS_id _ b0) (Ev.bind e2 (Ev.bind (laws_eqHappeningS_self _ bv) (Ev.neg (by simp) (Ev.bind (laws_toEventS_id _ b0) (Ev.bind (laws_eqEventS_self _ b0) (Ev.neg (by simp) (Ev.bind m1 (Ev.neg (by show ¬ (1 + 4 * (a0.length : Int)) < 0; omega) (Ev.bind (laws_eqHappeningS_self _ bv) (Ev.neg (by simp)
    (Ev.bind m2 (Ev.bind hh (Ev.neg (by omega) (Ev.neg (by simp) (Ev.bind (laws_toEventS_id _ b0) (Ev.bind e2 (Ev.bind (laws_eqHappeningS_self _ bv) (Ev.neg (by simp) (Ev.bind hh (Ev.neg (by omega) (Ev.neg (by simp) Ev.ret))))))))))))))))))))))))))
end Go.QFnExactWriteAll
