/- The law's helpers. No condition. -/
import Derived.Test.YtboaihbcaoofcaaDoorQFnExactFormatNumbers
import Derived.Test.YtboaihbcaoofcaaDoorPur
set_option linter.unusedVariables false
set_option linter.unusedSimpArgs false
open Go Go.Flat
namespace Go.QFnExactFormatNumbers
theorem laws_toIntS_id (x : (List Int)) (h : Bk (.list (.int .i64)) x) : Ev (fun k => laws_toIntS k x) x := by
  have hL : x.length ≤ 1048576 := h.1
  refine Ev.eq (fun k => laws_toIntS_eq k x) (Ev.pos (by omega) (Ev.pos (by omega) (Ev.pos (by omega) (Ev.loop (f := fun k m => laws_toIntS.l0 k m x 0 (List.replicate (Int.toNat ((List.length x : Nat) : Int)) (Ty.dflt (.int .i64)))) ?_))))
  have key := loop_map (t := (.int .i64)) (u := (.int .i64)) (F := fun i y k m => laws_toIntS.l0 k m x i y) (x := x) (fun a => a) (fun y => E2.eq (fun k m => laws_toIntS.l0_eq k m x _ y) (E2.neg (by omega) E2.ret)) (fun i y hi hy v e => by
    refine E2.eq (fun k m => laws_toIntS.l0_eq k m x _ y) (E2.pos (by omega) (E2.pos (by omega) (E2.pos (by omega) (E2.pos (by omega) (E2.pos (by omega) ?_)))))
    rw [wrapS (by omega), Int.toNat_natCast]; exact e) (List.replicate (Int.toNat ((List.length x : Nat) : Int)) (Ty.dflt (.int .i64))) (by simp)
  exact key.val (by simp)
theorem laws_eqIntS_self (x : (List Int)) (h : Bk (.list (.int .i64)) x) : Ev (fun k => laws_eqIntS k x x) true := by
  have hL : x.length ≤ 1048576 := h.1
  refine Ev.eq (fun k => laws_eqIntS_eq k x x) (Ev.neg (by simp) (Ev.loop (f := fun k m => laws_eqIntS.l0 k m x x 0) ?_))
  obtain ⟨r, er, hr⟩ := loop_all (F := fun i k m => laws_eqIntS.l0 k m x x i) (n := x.length) (fun _ => True) (E2.eq (fun k m => laws_eqIntS.l0_eq k m x x _) (E2.neg (by omega) E2.ret)) (fun i hi _ v e => by
    refine E2.eq (fun k m => laws_eqIntS.l0_eq k m x x _) (E2.pos (by omega) (E2.pos (by omega) (E2.pos (by omega) (E2.pos (by omega) (E2.pos (by omega) (E2.neg (by simp) ?_))))))
    rw [wrapS (by omega)]; exact e) (fun i hi hq => (hq trivial).elim)
  exact er.val (hr.2 fun _ _ => trivial)
end Go.QFnExactFormatNumbers
