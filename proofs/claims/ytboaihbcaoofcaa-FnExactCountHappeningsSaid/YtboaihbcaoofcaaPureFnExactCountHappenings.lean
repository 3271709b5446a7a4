/- The plain half of FnExactCountHappenings. No condition. -/
import Derived.Test.YtboaihbcaoofcaaHFnExactCountHappenings
set_option linter.unusedVariables false
set_option linter.unusedSimpArgs false
open Go Go.Flat
namespace Go.QFnExactCountHappenings
theorem count_both (l : List DT82) (kd : Int) (hl : l.length ≤ 1048576) : ∀ (d : Nat) (i n : Int), i + d = l.length → 0 ≤ i → ∃ v : Int, E2 (fun k m => spec_CountHappenings.l0 k m l kd n i) v ∧ E2 (fun k m => impl_CountHappenings.l0 k m kd n l ((List.length l : Nat) : Int) i) v := by
  intro d
  induction d with
  | zero =>
    intro i n hi h0
    exact ⟨n, E2.eq (fun k m => spec_CountHappenings.l0_eq k m l kd n i) (E2.neg (by omega) E2.ret), E2.eq (fun k m => impl_CountHappenings.l0_eq k m kd n l _ i) (E2.neg (by omega) E2.ret)⟩
  | succ d ih =>
    intro i n hi h0
    have hw : IntKind.wrap .i64 (i + 1) = i + 1 := wrapI (by omega) (by omega)
    by_cases c : Eq (α := Int) (rd T82 l i).1 kd
    · obtain ⟨v, e1, e2⟩ := ih (i + 1) (IntKind.wrap .i64 (n + 1)) (by omega) (by omega)
      refine ⟨v, E2.eq (fun k m => spec_CountHappenings.l0_eq k m l kd n i) (E2.pos (by omega) (E2.pos (by omega) (E2.pos (by omega) (E2.pos c ?_)))), E2.eq (fun k m => impl_CountHappenings.l0_eq k m kd n l _ i) (E2.pos (by omega) (E2.pos (by omega) (E2.pos (by omega) (E2.pos c ?_))))⟩
      · rw [hw]; exact e1
      · rw [hw]; exact e2
    · obtain ⟨v, e1, e2⟩ := ih (i + 1) n (by omega) (by omega)
      refine ⟨v, E2.eq (fun k m => spec_CountHappenings.l0_eq k m l kd n i) (E2.pos (by omega) (E2.pos (by omega) (E2.pos (by omega) (E2.neg c ?_)))), E2.eq (fun k m => impl_CountHappenings.l0_eq k m kd n l _ i) (E2.pos (by omega) (E2.pos (by omega) (E2.pos (by omega) (E2.neg c ?_))))⟩
      · rw [hw]; exact e1
      · rw [hw]; exact e2
theorem pure (a0 : List DT82) (a1 : Int) (w0 : Wd (.list T82) a0) (w1 : Wd (.int .i64) a1) : ∃ k, laws_FnExactCountHappenings k a0 a1 = some true := by
  refine Ev.at (f := fun k => laws_FnExactCountHappenings k a0 a1) ?_
  obtain ⟨r0, e0, h0⟩ := laws_szHappeningS_ok a0 w0 1048576 (by omega) (by omega)
  by_cases c0 : r0 < 0
  · exact Ev.eq (fun k => laws_FnExactCountHappenings_eq k a0 a1) (Ev.bind e0 (Ev.pos c0 Ev.ret))
  replace h0 := h0.resolve_left c0
  have b0 := h0.2.2
  obtain ⟨v, e1, e2⟩ := count_both a0 a1 b0.1 a0.length 0 0 (by omega) (by omega)
  have s1 : Ev (fun k => spec_CountHappenings k a0 a1) v := Ev.eq (fun k => spec_CountHappenings_eq k a0 a1) (Ev.loop (f := fun k m => spec_CountHappenings.l0 k m a0 a1 0 0) e1)
  have s2 : Ev (fun k => impl_CountHappenings k a0 a1) v := Ev.eq (fun k => impl_CountHappenings_eq k a0 a1) (Ev.loop (f := fun k m => impl_CountHappenings.l0 k m a1 0 a0 ((List.length a0 : Nat) : Int) 0) e2)
  exact Ev.eq (fun k => laws_FnExactCountHappenings_eq k a0 a1) (Ev.bind e0 (Ev.neg c0 (Ev.bind (laws_toHappeningS_id _ b0) (Ev.bind s1 (Ev.bind (laws_toHappeningS_id _ b0) (Ev.bind s2 (Ev.neg (by simp) (Ev.bind (laws_toHappeningS_id _ b0) (Ev.bind (laws_eqHappeningS_self _ b0) (Ev.neg (by simp) Ev.ret))))))))))
end Go.QFnExactCountHappenings
